/- The walks of frame's small, plain, length. -/
import Derived.Test.YtebppgokcmeedaaDoorF1
import Derived.Lib.ConvBytes
import Derived.Laws.IdiomStrings
namespace Go.Proofs.Fr
open Go.RowKit Go.Proofs Go.Lib

theorem low_or : ∀ c : UInt8, 65 ≤ c.toNat → c.toNat ≤ 90 → bits BinOp.or .u8 (c.toNat : Int) 32 = ((lowB c).toNat : Int) := forall_u8 (by decide +kernel)
theorem list_get (s : ByteArray) (i : Nat) (h : i < s.size) : s.data.toList[i]? = some s[i] := by
  rw [List.getElem?_eq_getElem (by rw [← Lib.size_eq]; exact h)]
  rfl
theorem list_none (s : ByteArray) (i : Nat) (h : ¬ i < s.size) : s.data.toList[i]? = none := List.getElem?_eq_none (by rw [← Lib.size_eq]; omega)
theorem getD_get (s : ByteArray) (i : Nat) (h : i < s.size) : s.data.toList.getD i 0 = s[i] := by
  rw [List.getD_eq_getElem?_getD, list_get s i h]; rfl
theorem bytes_frozen (w : World) (s : ByteArray) (j : Nat) (hj : j < s.size) : (bytesWorld w 5 s).frozen? ⟨w.heap.size, j, none⟩ = false := by
  have h := bytesWorld_at_new w 5 s
  have hz : s.size ≤ (bytesCells w 5 s).size := by unfold bytesCells; rw [Array.size_append, Array.size_map]; exact Nat.le_add_right _ _
  unfold World.frozen?
  simp only
  rw [h]
  simp only [Bool.and_eq_false_iff, decide_eq_false_iff_not]
  left
  omega
/-- the row of small's own bytes, behind i rounds -/
def Sm (s : ByteArray) (nb i : Nat) (w : World) : Prop := ∀ j, j < s.size → w.cell? ⟨nb, j, none⟩ = some (.int .u8 ((if j < i then lowB (s.data.toList.getD j 0) else s.data.toList.getD j 0).toNat : Int)) ∧ w.frozen? ⟨nb, j, none⟩ = false
theorem Sm.start (w : World) (s : ByteArray) : Sm s w.heap.size 0 (bytesWorld w 5 s) := fun j hj => by
  rw [if_neg (by omega)]
  exact ⟨bytesWorld_cell w 5 s j hj, bytes_frozen w s j hj⟩
theorem Sm.keep {s : ByteArray} {nb i : Nat} {w : World} (h : Sm s nb i w) (hi : i < s.size) (he : lowB s[i] = s[i]) : Sm s nb (i + 1) w := fun j hj => by
  obtain ⟨h1, h2⟩ := h j hj
  refine ⟨?_, h2⟩
  rw [h1]
  by_cases hji : j < i
  · rw [if_pos hji, if_pos (by omega)]
  · rw [if_neg hji]
    by_cases e : j = i
    · subst e; rw [if_pos (by omega), getD_get s j hj, he]
    · rw [if_neg (by omega)]
theorem Sm.set {s : ByteArray} {nb i : Nat} {w : World} (h : Sm s nb i w) (hi : i < s.size) : Sm s nb (i + 1) (w.setCell ⟨nb, i, none⟩ (.int .u8 ((lowB s[i]).toNat : Int))) := fun j hj => by
  obtain ⟨h1, h2⟩ := h j hj
  refine ⟨?_, by rw [World.frozen?_setCell]; exact h2⟩
  by_cases e : j = i
  · subst e
    rw [World.cell?_setCell_same _ _ _ h1, if_pos (by omega), getD_get s j hj]
  · rw [World.cell?_setCell_other _ _ _ _ (by intro x; exact e (congrArg Addr.off x).symm), h1]
    by_cases hji : j < i
    · rw [if_pos hji, if_pos (by omega)]
    · rw [if_neg hji, if_neg (by omega)]
theorem low_same : ∀ c : UInt8, ¬ (65 ≤ c.toNat ∧ c.toNat ≤ 90) → lowB c = c := fun c h => by unfold lowB; rw [if_neg h]
set_option maxRecDepth 100000 in
set_option maxHeartbeats 1000000 in
theorem small_any (s : ByteArray) (w : World) (hs : s.size ≤ 16777216) : Calls Tryd.prog 46 #[.string s] w fun e w' => e = .returned (.string ⟨(s.data.toList.map lowB).toArray⟩) ∧ Below w.heap.size w w' := by
  have hcv := fun w => Lib.run_convert_string_bytes (P := Tryd.prog) w 9 48 5 s Tryd.underlying9 Tryd.underlying48 Tryd.underlying5
  have hst := Sm.start w s
  have hb0 := Joins.below_bytesWorld w.heap.size w 5 s (Nat.le_refl _)
  obtain ⟨W, hW⟩ : ∃ W, bytesWorld w 5 s = W := ⟨_, rfl⟩
  obtain ⟨cap, hcap⟩ : ∃ cap, grownCap w s.size 0 5 = cap := ⟨_, rfl⟩
  have hcv0 := hcv w
  rw [hW, hcap] at hcv0
  rw [hW] at hst hb0
  obtain ⟨nb, hnb⟩ : ∃ nb, w.heap.size = nb := ⟨_, rfl⟩
  rw [hnb] at hst hb0 hcv0 ⊢
  have HST := Lib.hid hst
  clear hcv hW hcap hnb hst
  go_enter Tryd.func46, Tryd.ntmps46
  go_wp2
  go_loopw [10] (fun v wr => ∃ i : Nat, v = .int .i64 i ∧ i ≤ s.size ∧ Sm s nb i wr ∧ Below nb w wr) (fun v _ => s.size - (RowKit.intOf v).toNat)
  case atStart => exact ⟨0, rfl, Nat.zero_le _, HST.out, hb0⟩
  case round =>
    obtain ⟨i, rfl, hi, hS, hB⟩ := hrel
    by_cases hlt : (i : Int) < (s.size : Int)
    · have hi' : i < s.size := by omega
      obtain ⟨c1, c2⟩ := hS i hi'
      rw [if_neg (by omega), getD_get s i hi'] at c1
      have H := Lib.hid hS
      clear hS hcv0 hb0
      by_cases h1 : 65 ≤ s[i].toNat
      · have u1 : decide ((65 : Int) ≤ (s[i].toNat : Int)) = true := by simp; omega
        by_cases h2 : s[i].toNat ≤ 90
        · have u2 : decide ((s[i].toNat : Int) ≤ 90) = true := by simp; omega
          have hor := low_or s[i] h1 h2
          clear h1 h2
          go_wp2
          go_roundw
          case rel => exact ⟨i + 1, by go_num, by omega, H.out.set hi', hB.setCell (Nat.le_refl _) _⟩
          case measure => simp [RowKit.intOf]; omega
        · have u2 : decide ((s[i].toNat : Int) ≤ 90) = false := by simp; omega
          have hk := H.out.keep hi' (low_same _ (by omega))
          have HK := Lib.hid hk
          clear h1 h2 hk
          go_wp2
          go_roundw
          case rel => exact ⟨i + 1, by go_num, by omega, HK.out, hB⟩
          case measure => simp [RowKit.intOf]; omega
      · have u1 : decide ((65 : Int) ≤ (s[i].toNat : Int)) = false := by simp; omega
        have hk := H.out.keep hi' (low_same _ (by omega))
        have HK := Lib.hid hk
        clear h1 hk
        go_wp2
        go_roundw
        case rel => exact ⟨i + 1, by go_num, by omega, HK.out, hB⟩
        case measure => simp [RowKit.intOf]; omega
    · have hii : i = s.size := by omega
      have hback : (convert 48 9 (.slice (some ⟨nb, 0, none⟩) s.size cap)).run Tryd.prog wr = .ok (.string ⟨(s.data.toList.map lowB).toArray⟩) wr := by
        have hl : s.size = (s.data.toList.map lowB).length := by rw [List.length_map, ← Lib.size_eq]
        rw [hl]
        refine run_convert_bytes_back _ 48 9 5 ⟨nb, 0, none⟩ cap (s.data.toList.map lowB) (by kernel_rfl) (by kernel_rfl) (by kernel_rfl) fun j hj => ?_
        have e : (⟨nb, 0, none⟩ : Addr).add j = ⟨nb, j, none⟩ := by simp [Addr.add]; omega
        rw [List.length_map, ← Lib.size_eq] at hj
        rw [e, (hS j hj).1, if_pos (by omega), getD_get s j hj, List.getElem_map]
        rfl
      clear hS hcv0 hb0 hii
      go_wp2
      go_ret
      exact ⟨rfl, hB⟩
theorem ret_bool {a b : Bool} (h : a = b) : Ending.returned (.bool a) = .returned (.bool b) := by rw [h]
set_option maxRecDepth 100000 in
theorem plain_any (s : ByteArray) (w : World) (hs : s.size ≤ 16777216) : Calls Tryd.prog 43 #[.string s] w fun e w' => e = .returned (.bool (plainB s.data.toList)) ∧ w = w' := by
  obtain ⟨P, hP⟩ : ∃ P, plainB s.data.toList = P := ⟨_, rfl⟩
  rw [hP]
  have HP := Lib.hid hP
  clear hP
  go_enter Tryd.func43, Tryd.ntmps43
  go_wp2
  go_loop [6] (fun v => ∃ i : Nat, v = .int .i64 i ∧ i ≤ s.size ∧ plainB (s.data.toList.drop i) = P) (fun v => s.size - (RowKit.intOf v).toNat)
  case atStart => exact ⟨0, rfl, Nat.zero_le _, by rw [List.drop_zero]; exact HP.out⟩
  case round =>
    obtain ⟨i, rfl, hi, hp⟩ := hrel
    have HQ := Lib.hid hp
    clear hp
    by_cases hlt : (i : Int) < (s.size : Int)
    · have hi' : i < s.size := by omega
      have hd : s.data.toList.drop i = s[i] :: s.data.toList.drop (i + 1) := List.drop_eq_getElem_cons (by rw [← Lib.size_eq]; exact hi')
      have hc : plainB (s.data.toList.drop i) = (decide (32 ≤ s[i].toNat ∧ s[i].toNat ≤ 126) && plainB (s.data.toList.drop (i + 1))) := by
        rw [hd]; rfl
      have HC := Lib.hid hc
      clear hd hc
      by_cases h1 : s[i].toNat < 32
      · have u1 : decide ((s[i].toNat : Int) < 32) = true := by simp; omega
        have hr : P = false := by rw [← HQ.out, HC.out, decide_eq_false (by omega)]; rfl
        have HR := Lib.hid hr
        clear h1 hr
        go_wp2
        go_ret
        exact ⟨ret_bool HR.out.symm, rfl⟩
      · have u1 : decide ((s[i].toNat : Int) < 32) = false := by simp; omega
        by_cases h2 : 126 < s[i].toNat
        · have u2 : decide ((126 : Int) < (s[i].toNat : Int)) = true := by simp; omega
          have hr : P = false := by rw [← HQ.out, HC.out, decide_eq_false (by omega)]; rfl
          have HR := Lib.hid hr
          clear h1 h2 hr
          go_wp2
          go_ret
          exact ⟨ret_bool HR.out.symm, rfl⟩
        · have u2 : decide ((126 : Int) < (s[i].toNat : Int)) = false := by simp; omega
          have hr : plainB (s.data.toList.drop (i + 1)) = P := by rw [← HQ.out, HC.out, decide_eq_true (by omega)]; rfl
          have HR := Lib.hid hr
          clear h1 h2 hr
          go_wp2
          go_round
          case rel => exact ⟨i + 1, by go_num, by omega, HR.out⟩
          case measure => simp [RowKit.intOf]; omega
    · have hr : P = true := by
        rw [← HQ.out, List.drop_eq_nil_of_le (by rw [← Lib.size_eq]; omega)]; rfl
      have HR := Lib.hid hr
      clear hr
      go_wp2
      go_ret
      exact ⟨ret_bool HR.out.symm, rfl⟩
theorem ret_int {a b : Int} (h : a = b) : Ending.returned (.int .i64 a) = .returned (.int .i64 b) := by rw [h]
def digB : ByteArray := ⟨#[48, 49, 50, 51, 52, 53, 54, 55, 56, 57]⟩
theorem size_mk (l : List UInt8) : (⟨l.toArray⟩ : ByteArray).size = l.length := by simp [ByteArray.size]
set_option maxRecDepth 100000 in
set_option maxHeartbeats 1000000 in
theorem length_any (s : ByteArray) (w : World) (hs : s.size ≤ 16777216) : Calls Tryd.prog 41 #[.string s] w fun e w' => e = .returned (.int .i64 (numV s.data.toList)) ∧ Below w.heap.size w w' := by
  have ht := fun w => Tryd.strings_TrimLeft_one s 32 (by decide) w
  rw [skip_trim] at ht
  obtain ⟨D, hD⟩ : ∃ D : ByteArray, (⟨(skip s.data.toList).toArray⟩ : ByteArray) = D := ⟨_, rfl⟩
  have hDl : D.data.toList = skip s.data.toList := by rw [← hD]
  have hDs : D.size = (skip s.data.toList).length := by rw [← hD, size_mk]
  have hsk := skip_len s.data.toList
  rw [← Lib.size_eq] at hsk
  simp only [hD] at ht
  have htr : ∀ w, Calls Tryd.prog 62 #[.string D, .string digB] w fun e w' => e = .returned (.string ⟨(trimS D.data.toList digT).toArray⟩) ∧ Below w.heap.size w w' := fun w =>
    Any.strings_Trim_laid Tryd.lays160 (by kernel_rfl) D digB w (by omega) (by decide) (ascii_of_all (by decide))
  obtain ⟨R, hR⟩ : ∃ R, numV s.data.toList = R := ⟨_, rfl⟩
  rw [hR]
  unfold numV at hR
  rw [← hDl] at hR
  unfold digB at htr
  by_cases h0 : D.data.toList = []
  · have hr : R = -1 := by rw [← hR, if_pos (.inl h0)]
    have u0 : D.toList = [] := by rw [ByteArray.toList_eq]; exact h0
    have HR := Lib.hid hr
    clear hR hD hDl h0 hr htr
    go_enter Tryd.func41, Tryd.ntmps41
    go_wp2_with (first
      | (go_at_call 61; refine (ht _).mono ?_; rintro e w1 ⟨rfl, hw⟩; subst hw))
    go_ret
    exact ⟨ret_int HR.out.symm, Below.refl _ _⟩
  · have u0 : D.toList.isEmpty = false := by
      rw [ByteArray.toList_eq]
      cases hh : D.data.toList with
      | nil => exact absurd hh h0
      | cons => rfl
    by_cases h1 : 18 < D.data.toList.length
    · have hr : R = -1 := by rw [← hR, if_pos (.inr (.inl h1))]
      have u1 : (18 : Int) < (D.size : Int) := by rw [Lib.size_eq]; omega
      have HR := Lib.hid hr
      clear hR hD hDl h0 hr htr h1
      go_enter Tryd.func41, Tryd.ntmps41
      go_wp2_with (first
        | (go_at_call 61; refine (ht _).mono ?_; rintro e w1 ⟨rfl, hw⟩; subst hw))
      go_ret
      exact ⟨ret_int HR.out.symm, Below.refl _ _⟩
    · have u1 : ¬ (18 : Int) < (D.size : Int) := by rw [Lib.size_eq]; omega
      cases ha : D.data.toList.all isDig with
      | false =>
        have hr : R = -1 := by rw [← hR, if_pos (.inr (.inr ha))]
        have hne : ¬ trimS D.data.toList digT = [] := fun e => by rw [(trim_digits _).1 e] at ha; cases ha
        obtain ⟨X, hX⟩ : ∃ X : ByteArray, (⟨(trimS D.data.toList digT).toArray⟩ : ByteArray) = X := ⟨_, rfl⟩
        have u2 : X.toList.isEmpty = false := by
          rw [ByteArray.toList_eq, ← hX]
          cases hh : trimS D.data.toList digT with
          | nil => exact absurd hh hne
          | cons => rfl
        have u3 : (!X.toList.isEmpty) = true := by rw [u2]; rfl
        simp only [hX] at htr
        have HR := Lib.hid hr
        clear hR hD hDl h0 hr h1 ha hne hX
        go_enter Tryd.func41, Tryd.ntmps41
        go_wp2_with (first
          | (go_at_call 61; refine (ht _).mono ?_; rintro e w1 ⟨rfl, hw⟩; subst hw)
          | (go_at_call 62; refine (htr _).mono ?_; rintro e w2 ⟨rfl, hb2⟩))
        go_ret
        exact ⟨ret_int HR.out.symm, hb2⟩
      | true =>
        have hr : R = (decV D.data.toList 0 : Nat) := by
          rw [← hR, if_neg]
          rintro (h | h | h)
          · exact h0 h
          · exact h1 h
          · rw [ha] at h; cases h
        have he : trimS D.data.toList digT = [] := (trim_digits _).2 ha
        rw [he] at htr
        have hat := fun w => Tryd.strconv_Atoi D _ (by rw [Lib.size_eq]; omega) (atoi_dec h0 ha) w
        rw [← hr] at hat
        have HR := Lib.hid hr
        clear hR hD hDl h0 hr h1 ha he
        go_enter Tryd.func41, Tryd.ntmps41
        go_wp2_with (first
          | (go_at_call 61; refine (ht _).mono ?_; rintro e w1 ⟨rfl, hw⟩; subst hw)
          | (go_at_call 62; refine (htr _).mono ?_; rintro e w2 ⟨rfl, hb2⟩)
          | (go_at_call 63; refine (hat _).mono ?_; rintro e w3 ⟨rfl, t, hw3⟩
             have hb3 : Below w2.heap.size w2 w3 := by rw [hw3]; exact Joins.below_bytesWorld _ _ _ _ (Nat.le_refl _)
             clear hw3))
        go_ret
        exact ⟨rfl, hb2.trans (hb3.mono hb2.size)⟩
end Go.Proofs.Fr
