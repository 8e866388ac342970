/- LinesBack, in plain Lean: the place of the Pos of a place. -/
import Derived.Test.YtipbojiialfmeaaDoorLin2
import Derived.Test.YtipbojiialfmeaaDoorZ6
namespace Go.Proofs.YtipbojiialfmeaaDoor
open Go.RowKit Go.Proofs.Utf Go.Lib

theorem chain_next (l : List UInt8) : ∀ (L : List (Nat × Nat)) (a : Nat), Chain l a L → ∀ (i : Nat) (hi : i < L.length),
    (i + 1 = L.length → (L[i]'hi).2 = l.length) ∧ (∀ h : i + 1 < L.length, (L[i + 1]'h).1 = (L[i]'hi).2 + if hasPrefix (l.drop (L[i]'hi).2) [13, 10] then 2 else 1)
  | [], _, h, _, _ => h.elim
  | [x], a, h, i, hi => by
    have : i = 0 := by simp at hi; exact hi
    subst this
    exact ⟨fun _ => h.2.2.1, fun h2 => by simp at h2⟩
  | x :: y :: t, a, h, i, hi => by
    cases i with
    | zero =>
      refine ⟨fun h2 => by simp at h2, fun h2 => ?_⟩
      have hc := h.2.2.2.2
      cases t with
      | nil => exact hc.1
      | cons z u => exact hc.1
    | succ j =>
      have := chain_next l (y :: t) _ h.2.2.2.2 j (by simpa using hi)
      refine ⟨fun h2 => ?_, fun h2 => ?_⟩
      · exact this.1 (by simpa using h2)
      · exact this.2 (by simpa using h2)
theorem piece_at : ∀ (k : Nat) (l : List UInt8) (d : Nat), l.length ≤ k → d ≤ l.length →
    B (pieces l) (U (pieces l) d) = d ∨ (B (pieces l) (U (pieces l) d) < l.length ∧ d < B (pieces l) (U (pieces l) d) + headW (l.drop (B (pieces l) (U (pieces l) d))))
  | 0, l, d, h, hd => by
    have : l = [] := List.eq_nil_of_length_eq_zero (by omega)
    subst this
    left
    have : d = 0 := by simpa using hd
    subst this
    rfl
  | k + 1, l, d, h, hd => by
    by_cases hne : l = []
    · subst hne
      left
      have : d = 0 := by simpa using hd
      subst this
      rfl
    · have hl : 0 < l.length := List.length_pos_iff.2 hne
      have hw := headW_pos l
      have hw2 := headW_le l hl
      have hp := wt_pos (decodeL l).1
      rw [pieces_step l hne]
      by_cases hc : d < headW l
      · rw [U_in hc, B_in (by omega)]
        by_cases h0 : d = 0
        · left; exact h0.symm
        · right
          refine ⟨hl, ?_⟩
          rw [List.drop_zero]
          omega
      · rw [U_out hc, B_out (by omega), show wt (decodeL l).1 + U (pieces (l.drop (headW l))) (d - headW l) - wt (decodeL l).1 = U (pieces (l.drop (headW l))) (d - headW l) by omega]
        rcases piece_at k (l.drop (headW l)) (d - headW l) (by rw [List.length_drop]; omega) (by rw [List.length_drop]; omega) with h1 | ⟨h1, h2⟩
        · left; rw [h1]; omega
        · right
          rw [List.length_drop] at h1
          rw [List.drop_drop] at h2
          exact ⟨by omega, by omega⟩
theorem BU_out : ∀ (t : List (Nat × Nat)) (d : Nat), widthP t ≤ d → B t (U t d) = widthP t
  | [], _, _ => rfl
  | (w, r) :: t, d, h => by
    simp only [widthP] at h ⊢
    have hp := wt_pos r
    by_cases hc : d < w
    · omega
    · rw [U_out hc, B_out (by omega), show wt r + U t (d - w) - wt r = U t (d - w) by omega, BU_out t (d - w) (by omega)]
theorem headW_app (l m : List UInt8) (h : 1 ≤ l.length) : headW l ≤ headW (l ++ m) := by
  have hap : 1 ≤ (l ++ m).length := by rw [List.length_append]; omega
  by_cases hex : ∃ k, 1 ≤ k ∧ k ≤ 4 ∧ k ≤ l.length ∧ Hit l k
  · obtain ⟨k, h1, h4, hl, hh⟩ := hex
    have e : ∀ j, j < k → (l ++ m).getD j 0 = l.getD j 0 := fun j hj => by
      rw [List.getD_eq_getElem?_getD, List.getD_eq_getElem?_getD, List.getElem?_append_left (by omega)]
    have hh' : Hit (l ++ m) k := by
      have hla : k ≤ (l ++ m).length := by rw [List.length_append]; omega
      rcases (show k = 1 ∨ k = 2 ∨ k = 3 ∨ k = 4 by omega) with rfl | rfl | rfl | rfl
      · rw [Hit1 _ hla, e 0 (by omega)]; exact (Hit1 _ hl).1 hh
      · rw [Hit2 _ hla, e 0 (by omega), e 1 (by omega)]; exact (Hit2 _ hl).1 hh
      · rw [Hit3 _ hla, e 0 (by omega), e 1 (by omega), e 2 (by omega)]; exact (Hit3 _ hl).1 hh
      · rw [Hit4 _ hla, e 0 (by omega), e 1 (by omega), e 2 (by omega), e 3 (by omega)]; exact (Hit4 _ hl).1 hh
    rw [(head_found l k h1 h4 hl hh).2, (head_found (l ++ m) k h1 h4 (by rw [List.length_append]; omega) hh').2]
    exact Nat.le_refl _
  · rw [(head_missed l h (fun k h1 h4 hl hh => hex ⟨k, h1, h4, hl, hh⟩)).2]
    exact headW_pos _
theorem back_plain (s : ByteArray) (p : Nat) (hp : p ≤ s.size) : ∃ q : Nat, offP s (atP s p).1 (atP s p).2 = ((q : Int), 0) ∧ q ≤ p ∧ p ≤ q + 3 ∧
    (q = p ∨ (p = q + 1 ∧ s.data.toList[q]? = some 13 ∧ s.data.toList[p]? = some 10) ∨ (q < s.size ∧ p < q + headW (s.data.toList.drop q))) := by
  have hcl : clamp (p : Int) s.size = p := by unfold clamp; split <;> (try split) <;> omega
  have h1 := cnt_pos s p
  have h2 := cnt_le s p
  have hci := cnt_iff s p
  have hk : cnt s p - 1 < (linesL s.data.toList).length := by omega
  obtain ⟨x, hx⟩ : ∃ x, (linesL s.data.toList)[cnt s p - 1]'hk = x := ⟨_, rfl⟩
  have hxe : (linesL s.data.toList)[cnt s p - 1]? = some x := by rw [← hx]; exact List.getElem?_eq_getElem hk
  have hxp : x.1 ≤ p := by rw [← hx]; exact (hci _ hk).2 (by omega)
  have hat := atP_eq s p x (by rw [hcl]; exact hxe)
  rw [hcl] at hat
  have hla : lineAt (linesL s.data.toList) ((cnt s p : Int) - 1) = some x := by
    unfold lineAt
    rw [if_pos (by omega), show ((cnt s p : Int) - 1).toNat = cnt s p - 1 by omega, hxe]
  have hxi := lineAt_in hla
  have hz := lineB_size s x
  have hlt : (lineB s x).data.toList = (s.data.toList.drop x.1).take (x.2 - x.1) := by simp [lineB, ByteArray.data_extract]
  have hlen : (lineB s x).data.toList.length = x.2 - x.1 := by rw [← size_eq, hz]; omega
  have hwd := widthP_pieces _ (lineB s x).data.toList (Nat.le_refl _)
  have hwide := wide_pieces _ (lineB s x).data.toList (Nat.le_refl _)
  have hu : uaL s x p = U (pieces (lineB s x).data.toList) (p - x.1) := by
    show uaP (pieces (lineB s x).data.toList) 0 0 0 ((p : Int) - x.1) = _
    rw [ua_same _ _ hwide, show ((p : Int) - (x.1 : Int)) = ((p - x.1 : Nat) : Int) by omega, ua_U _ 0 (p - x.1) hwide (Nat.zero_le _), Nat.sub_zero]
  have hoff : offP s ((cnt s p : Int) - 1) (U (pieces (lineB s x).data.toList) (p - x.1) : Int) = (((x.1 + B (pieces (lineB s x).data.toList) (U (pieces (lineB s x).data.toList) (p - x.1)) : Nat) : Int), 0) := by
    unfold offP
    rw [if_neg (by omega), hla]
    have := byte_B (pieces (lineB s x).data.toList) 0 0 (U (pieces (lineB s x).data.toList) (p - x.1)) (Nat.zero_le _)
    rw [Nat.zero_add, Nat.sub_zero] at this
    show ((x.1 : Int) + (byteP (pieces (lineB s x).data.toList) 0 0 (U (pieces (lineB s x).data.toList) (p - x.1) : Int) : Int), (0 : Int)) = _
    rw [this]
    rfl
  rw [hat]
  simp only
  rw [hu, hoff]
  refine ⟨_, rfl, ?_⟩
  by_cases hin : p - x.1 ≤ x.2 - x.1
  · have hb := BU_le (pieces (lineB s x).data.toList) (p - x.1) hwide (by rw [hwd, hlen]; exact hin)
    have hpc := piece_at _ (lineB s x).data.toList (p - x.1) (Nat.le_refl _) (by rw [hlen]; exact hin)
    generalize B (pieces (lineB s x).data.toList) (U (pieces (lineB s x).data.toList) (p - x.1)) = b at *
    refine ⟨by omega, by omega, ?_⟩
    rcases hpc with h | ⟨h3, h4⟩
    · left; omega
    · right; right
      rw [hlen] at h3
      refine ⟨by omega, ?_⟩
      have hsp : s.data.toList.drop (x.1 + b) = (lineB s x).data.toList.drop b ++ s.data.toList.drop x.2 := by
        rw [hlt, List.drop_take, List.drop_drop]
        have := List.take_append_drop (x.2 - x.1 - b) (s.data.toList.drop (x.1 + b))
        rw [List.drop_drop, show x.1 + b + (x.2 - x.1 - b) = x.2 by omega] at this
        exact this.symm
      have := headW_app ((lineB s x).data.toList.drop b) (s.data.toList.drop x.2) (by rw [List.length_drop, hlen]; omega)
      rw [hsp]
      omega
  · have hb := BU_out (pieces (lineB s x).data.toList) (p - x.1) (by rw [hwd, hlen]; omega)
    rw [hwd, hlen] at hb
    rw [hb]
    have hn := chain_next s.data.toList _ 0 (chain_L s) (cnt s p - 1) hk
    rw [hx] at hn
    by_cases hlast : cnt s p - 1 + 1 = (linesL s.data.toList).length
    · have := hn.1 hlast
      rw [← size_eq] at this
      omega
    · have hlt2 : cnt s p - 1 + 1 < (linesL s.data.toList).length := by omega
      have hnx := hn.2 hlt2
      have hgt : p < ((linesL s.data.toList)[cnt s p - 1 + 1]'hlt2).1 := by
        have := hci (cnt s p - 1 + 1) hlt2
        omega
      cases hpf : hasPrefix (s.data.toList.drop x.2) [13, 10] with
      | false =>
        rw [hpf] at hnx
        simp only [Bool.false_eq_true, if_false] at hnx
        omega
      | true =>
        rw [hpf] at hnx
        simp only [if_true] at hnx
        have hpx : p = x.2 + 1 := by omega
        refine ⟨by omega, by omega, .inr (.inl ⟨by omega, ?_, ?_⟩)⟩
        · rw [show x.1 + (x.2 - x.1) = x.2 by omega]
          cases hq : s.data.toList.drop x.2 with
          | nil => rw [hq] at hpf; simp [hasPrefix, List.isPrefixOf] at hpf
          | cons c t =>
            rw [hq] at hpf
            simp [hasPrefix, List.isPrefixOf] at hpf
            have : (s.data.toList.drop x.2)[0]? = some c := by rw [hq]; rfl
            rw [List.getElem?_drop, Nat.add_zero] at this
            rw [this, ← hpf.1]
        · rw [hpx]
          cases hq : s.data.toList.drop x.2 with
          | nil => rw [hq] at hpf; simp [hasPrefix, List.isPrefixOf] at hpf
          | cons c t =>
            cases t with
            | nil => rw [hq] at hpf; simp [hasPrefix, List.isPrefixOf] at hpf
            | cons e t =>
              rw [hq] at hpf
              simp [hasPrefix, List.isPrefixOf] at hpf
              have : (s.data.toList.drop x.2)[1]? = some e := by rw [hq]; rfl
              rw [List.getElem?_drop] at this
              rw [this, ← hpf.2]
end Go.Proofs.YtipbojiialfmeaaDoor
