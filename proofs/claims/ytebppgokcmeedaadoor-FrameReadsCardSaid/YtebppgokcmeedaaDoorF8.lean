/- same: two rows of texts that are read. -/
import Derived.Test.YtebppgokcmeedaaDoorF7
import Derived.BigQuiet
namespace Go.Proofs.Fr
open Go.RowKit Go.Proofs Go.Lib

/-- The slice reads as these texts. -/
def StrsR (w : World) (v : Value) (l : List (List UInt8)) : Prop :=
  ∃ (p : Option Addr) (cap : Nat), v = .slice p l.length cap ∧ l.length ≤ cap ∧ (0 < l.length → ∃ g, p = some ⟨g, 0, none⟩ ∧ g < w.heap.size ∧ ∀ (k : Nat) (x : List UInt8), l[k]? = some x → w.cell? ⟨g, k, none⟩ = some (.string ⟨x.toArray⟩))
theorem StrsR.of_own {w : World} {B : Nat} {v : Value} {l : List (List UInt8)} (h : w.ownsRow B 9 1 v l.length (strCells l)) : StrsR w v l := by
  by_cases hp : 0 < l.length
  · obtain ⟨g, cap, hv, hc, hg, hcell⟩ := strs_at h hp
    exact ⟨_, cap, hv, hc, fun _ => ⟨g, rfl, hg, hcell⟩⟩
  · rcases h.2 with ⟨h1, h2⟩ | ⟨g, cap, cur, h1, h2, h3, h4, _⟩
    · exact ⟨none, 0, by rw [h1]; simp at hp; simp [hp], by omega, fun h => absurd h hp⟩
    · exact ⟨_, cap, h1, h4, fun h => absurd h hp⟩
theorem StrsR.below {w w' : World} {v : Value} {l : List (List UInt8)} (h : StrsR w v l) (hb : Below w.heap.size w w') : StrsR w' v l := by
  obtain ⟨p, cap, hv, hc, hr⟩ := h
  refine ⟨p, cap, hv, hc, fun hp => ?_⟩
  obtain ⟨g, h1, h2, h3⟩ := hr hp
  exact ⟨g, h1, Nat.lt_of_lt_of_le h2 hb.size, fun k x hk => (hb.cell (p := ⟨g, k, none⟩) h2).trans (h3 k x hk)⟩
theorem bytes_bne (x y : List UInt8) : (!(⟨x.toArray⟩ : ByteArray).toList == (⟨y.toArray⟩ : ByteArray).toList) = decide (x ≠ y) := by
  rw [ByteArray.toList_eq, ByteArray.toList_eq]
  by_cases h : x = y
  · subst h; simp
  · simp [h]
set_option maxRecDepth 100000 in
set_option maxHeartbeats 1000000 in
theorem same_any (w : World) (v1 v2 : Value) (a b : List (List UInt8)) (h1 : StrsR w v1 a) (h2 : StrsR w v2 b) (ha : a.length ≤ 1000000) (hb : b.length ≤ 1000000) : Calls Tryd.prog 19 #[v1, v2] w fun e w' => e = .returned (.bool (decide (a = b))) ∧ Below w.heap.size w w' := by
  obtain ⟨p1, c1, rfl, hc1, r1⟩ := h1
  obtain ⟨p2, c2, rfl, hc2, r2⟩ := h2
  by_cases hl : a.length = b.length
  · have hli : ((a.length : Int) != (b.length : Int)) = false := by simp [hl]
    have R1 := Lib.hid r1
    have R2 := Lib.hid r2
    have HL := Lib.hid hl
    clear r1 r2 hl
    go_enter Tryd.func19, Tryd.ntmps19
    go_wp2
    go_loopw [5] (fun i wr => ∃ k : Nat, i = .int .i64 k ∧ k ≤ a.length ∧ a.take k = b.take k ∧ Below w.heap.size w wr) (fun i _ => a.length - (RowKit.intOf i).toNat)
    case atStart => exact ⟨0, rfl, Nat.zero_le _, rfl, Below.refl _ _⟩
    case round =>
      obtain ⟨k, rfl, hk, hab, hB⟩ := hrel
      by_cases hkn : (k : Int) < (a.length : Int)
      · have hkl : k < a.length := by omega
        have hkm : k < b.length := by have := HL.out; omega
        have hkn2 : (k : Int) < (b.length : Int) := by omega
        obtain ⟨x, hx⟩ : ∃ x, a[k]? = some x := ⟨_, List.getElem?_eq_getElem hkl⟩
        obtain ⟨y, hy⟩ : ∃ y, b[k]? = some y := ⟨_, List.getElem?_eq_getElem hkm⟩
        obtain ⟨g1, rfl, hg1, hcell1⟩ := R1.out (by omega)
        obtain ⟨g2, rfl, hg2, hcell2⟩ := R2.out (by omega)
        have d1 := (hB.cell (p := ⟨g1, k, none⟩) hg1).trans (hcell1 k x hx)
        have d2 := (hB.cell (p := ⟨g2, k, none⟩) hg2).trans (hcell2 k y hy)
        obtain ⟨X, hX⟩ : ∃ X : ByteArray, (⟨x.toArray⟩ : ByteArray) = X := ⟨_, rfl⟩
        obtain ⟨Y, hY⟩ : ∃ Y : ByteArray, (⟨y.toArray⟩ : ByteArray) = Y := ⟨_, rfl⟩
        by_cases hxy : x = y
        · have hst : a.take (k + 1) = b.take (k + 1) := by rw [List.take_add_one, List.take_add_one, hab, hx, hy, hxy]
          have hXY : (!X.toList == Y.toList) = false := by rw [← hX, ← hY, hxy]; exact (bytes_bne _ _).trans (by simp)
          rw [hX] at d1
          rw [hY] at d2
          have HST := Lib.hid hst
          clear hst hx hy hX hY hcell1 hcell2 hab hxy
          go_wp2
          go_quiet (fail)
          go_wp2
          go_roundw
          case rel => exact ⟨k + 1, by go_num, by omega, HST.out, below_draws hB _⟩
          case measure => simp [RowKit.intOf]; omega
        · have hXY : (!X.toList == Y.toList) = true := by
            rw [← hX, ← hY]
            exact (bytes_bne _ _).trans (by simpa using hxy)
          have hne : a ≠ b := by
            rintro rfl
            rw [hx] at hy
            exact hxy (Option.some.inj hy)
          have hd : decide (a = b) = false := decide_eq_false hne
          rw [hX] at d1
          rw [hY] at d2
          clear hx hy hX hY hcell1 hcell2 hab hxy hne
          go_wp2
          go_quiet (fail)
          go_wp2
          go_ret
          exact ⟨by first | rfl | (rw [hd]; rfl), below_draws hB _⟩
      · have hd : decide (a = b) = true := by
          have := HL.out
          rw [List.take_of_length_le (by omega), List.take_of_length_le (by omega)] at hab
          exact decide_eq_true hab
        clear hab
        go_wp2
        go_ret
        exact ⟨by first | rfl | (rw [hd]; rfl), hB⟩
  · have hli : ((a.length : Int) != (b.length : Int)) = true := by simp; omega
    have hd : decide (a = b) = false := decide_eq_false (fun e => hl (by rw [e]))
    rw [hd]
    clear r1 r2 hl
    go_enter Tryd.func19, Tryd.ntmps19
    go_wp2
    go_ret
    exact ⟨rfl, Below.refl _ _⟩
end Go.Proofs.Fr
