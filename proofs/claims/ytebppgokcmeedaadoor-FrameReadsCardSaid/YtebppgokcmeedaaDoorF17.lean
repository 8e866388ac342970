/- The reference of frames: named, number. -/
import Derived.Test.YtebppgokcmeedaaDoorF16
namespace Go.Proofs.Fr
open Go.RowKit Go.Maps Go.Proofs Go.Lib

def namedV (o : Option (List UInt8)) : Value :=
  match o with
  | some v => .tuple #[.string ⟨v.toArray⟩, .bool true]
  | none => .tuple #[.string ⟨#[]⟩, .bool false]
theorem low_z : ∀ c : UInt8, 65 ≤ c.toNat → c.toNat ≤ 90 → ((c.toNat : Int) - 65 + 97) = ((lowB c).toNat : Int) := forall_u8 (by decide +kernel)
theorem take_low {l : List UInt8} {k : Nat} {c : UInt8} (h : l[k]? = some c) : (l.take (k + 1)).map lowB = (l.take k).map lowB ++ [lowB c] := by
  rw [List.take_add_one, h]; simp
theorem take_one {l : List UInt8} {k : Nat} {c : UInt8} (h : l[k]? = some c) : l.take (k + 1) = l.take k ++ [c] := by
  rw [List.take_add_one, h]; rfl
set_option maxRecDepth 100000 in
set_option maxHeartbeats 4000000 in
theorem named_ref (s n : ByteArray) (w : World) (hs : s.size ≤ 16777216) (hn : n.size ≤ 1000) : Calls Tryd.prog 49 #[.string s, .string n] w fun e w' => e = .returned (namedV (named s.data.toList n.data.toList)) ∧ w = w' := by
  obtain ⟨O, hO⟩ : ∃ O, named s.data.toList n.data.toList = O := ⟨_, rfl⟩
  rw [hO]
  unfold named at hO
  rw [← Lib.size_eq] at hO
  by_cases hl : (s.size : Int) ≤ (n.size : Int)
  · have h1 : O = none := by
      rw [← hO, if_neg]
      rintro ⟨_, h⟩
      rw [list_none s _ (by omega)] at h
      cases h
    subst h1
    clear hO
    go_enter Tryd.func49, Tryd.ntmps49
    go_wp2
    go_ret2
    exact ⟨rfl, rfl⟩
  · have hlt : n.size < s.size := by omega
    rw [list_get s _ hlt] at hO
    by_cases hc : s[n.size].toNat = 58
    · have hc2 : s[n.size] = 58 := UInt8.toNat_inj.1 hc
      have u0 : ((s[n.size].toNat : Int) != 58) = false := by rw [hc]; rfl
      have hlz : (n.size : Int) < (s.size : Int) := by omega
      have HO := Lib.hid hO
      have HC := Lib.hid hc2
      clear hO hc hc2
      go_enter Tryd.func49, Tryd.ntmps49
      go_wp2
      go_loop [6] (fun v => ∃ k : Nat, v = .int .i64 k ∧ k ≤ n.size ∧ (s.data.toList.take k).map lowB = n.data.toList.take k) (fun v => n.size - (RowKit.intOf v).toNat)
      case atStart => exact ⟨0, rfl, Nat.zero_le _, rfl⟩
      case round =>
        obtain ⟨k, rfl, hk, hm⟩ := hrel
        have HM := Lib.hid hm
        clear hm
        by_cases hkn : (k : Int) < (n.size : Int)
        · have hkn2 : k < n.size := by omega
          have hks : k < s.size := by omega
          have hkz : (k : Int) < (s.size : Int) := by omega
          have g1 := list_get s k hks
          have g2 := list_get n k hkn2
          have G1 := Lib.hid g1
          have G2 := Lib.hid g2
          clear g1 g2
          have key : lowB s[k] = n[k] → (s.data.toList.take (k + 1)).map lowB = n.data.toList.take (k + 1) := fun h => by
            rw [take_low G1.out, take_one G2.out, HM.out, h]
          have kno : lowB s[k] ≠ n[k] → O = none := fun h => by
            rw [← HO.out, if_neg]
            rintro ⟨h1, _⟩
            have h2 := congrArg (·[k]?) h1
            rw [List.getElem?_map, List.getElem?_take_of_lt (by omega), G1.out, G2.out] at h2
            exact h (Option.some.inj h2)
          by_cases h1 : 65 ≤ s[k].toNat
          · have u1 : decide ((65 : Int) ≤ (s[k].toNat : Int)) = true := by simp; omega
            by_cases h2 : s[k].toNat ≤ 90
            · have u2 : decide ((s[k].toNat : Int) ≤ 90) = true := by simp; omega
              have hz := low_z s[k] h1 h2
              have b1 : (65 : Int) ≤ (s[k].toNat : Int) := by omega
              have b2 : (s[k].toNat : Int) ≤ 90 := by omega
              by_cases he : lowB s[k] = n[k]
              · have u3 : (((lowB s[k]).toNat : Int) != (n[k].toNat : Int)) = false := by rw [he]; simp
                have K := Lib.hid (key he)
                clear key kno he h1 h2
                go_wp2
                go_round
                case rel => exact ⟨k + 1, by go_num, by omega, K.out⟩
                case measure => simp [RowKit.intOf]; omega
              · have u3 : (((lowB s[k]).toNat : Int) != (n[k].toNat : Int)) = true := by
                  simp only [bne_iff_ne, ne_eq]
                  intro e
                  exact he (UInt8.toNat_inj.1 (by omega))
                have hnone := kno he
                subst hnone
                clear key kno he h1 h2
                go_wp2
                go_ret2
                exact ⟨rfl, rfl⟩
            · have u2 : decide ((s[k].toNat : Int) ≤ 90) = false := by simp; omega
              have hls := low_same s[k] (by omega)
              rw [hls] at key kno
              by_cases he : s[k] = n[k]
              · have u3 : ((s[k].toNat : Int) != (n[k].toNat : Int)) = false := by rw [he]; simp
                have K := Lib.hid (key he)
                clear key kno he h1 h2 hls
                go_wp2
                go_round
                case rel => exact ⟨k + 1, by go_num, by omega, K.out⟩
                case measure => simp [RowKit.intOf]; omega
              · have u3 : ((s[k].toNat : Int) != (n[k].toNat : Int)) = true := by
                  simp only [bne_iff_ne, ne_eq]
                  intro e
                  exact he (UInt8.toNat_inj.1 (by omega))
                have hnone := kno he
                subst hnone
                clear key kno he h1 h2 hls
                go_wp2
                go_ret2
                exact ⟨rfl, rfl⟩
          · have u1 : decide ((65 : Int) ≤ (s[k].toNat : Int)) = false := by simp; omega
            have hls := low_same s[k] (by omega)
            rw [hls] at key kno
            by_cases he : s[k] = n[k]
            · have u3 : ((s[k].toNat : Int) != (n[k].toNat : Int)) = false := by rw [he]; simp
              have K := Lib.hid (key he)
              clear key kno he h1 hls
              go_wp2
              go_round
              case rel => exact ⟨k + 1, by go_num, by omega, K.out⟩
              case measure => simp [RowKit.intOf]; omega
            · have u3 : ((s[k].toNat : Int) != (n[k].toNat : Int)) = true := by
                simp only [bne_iff_ne, ne_eq]
                intro e
                exact he (UInt8.toNat_inj.1 (by omega))
              have hnone := kno he
              subst hnone
              clear key kno he h1 hls
              go_wp2
              go_ret2
              exact ⟨rfl, rfl⟩
        · have hkk : k = n.size := by omega
          subst hkk
          have hr : O = some (s.data.toList.drop (n.size + 1)) := by
            rw [← HO.out, if_pos]
            refine ⟨?_, by rw [HC.out]⟩
            rw [HM.out, List.take_of_length_le (by rw [← Lib.size_eq]; exact Nat.le_refl _)]
          subst hr
          have hx : s.extract (n.size + 1) s.size = ⟨(s.data.toList.drop (n.size + 1)).toArray⟩ := ext_rest s (n.size + 1)
          have HX := Lib.hid hx
          have h1 : (n.size : Int) + 1 ≤ (s.size : Int) := by omega
          clear hx
          go_wp2
          go_ret2
          exact ⟨by rw [namedV, ← HX.out]; rfl, rfl⟩
    · have h1 : O = none := by
        rw [← hO, if_neg]
        rintro ⟨_, h⟩
        exact hc (by rw [Option.some.inj h]; rfl)
      subst h1
      have u0 : ((s[n.size].toNat : Int) != 58) = true := by simp; omega
      have hlz : (n.size : Int) < (s.size : Int) := by omega
      clear hO hc
      go_enter Tryd.func49, Tryd.ntmps49
      go_wp2
      go_ret2
      exact ⟨rfl, rfl⟩
end Go.Proofs.Fr
