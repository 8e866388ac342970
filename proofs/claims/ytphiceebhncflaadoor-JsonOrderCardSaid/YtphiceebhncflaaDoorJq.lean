/- Four hex digits, lowered: the plain law of unit. No program in sight. -/
import Derived.Test.YtphiceebhncflaaDoorJ3
import Derived.Lib.MapLaws
import Derived.Shelf.Strings.CaseAny
namespace Go.Proofs.Jt
open Go.Lib Go.Proofs.Utf Go.Proofs

def rowFar (x : CaseRow) : Bool := decide (x.2.1 < 128) || (decide (102 < (x.1 : Int) + x.delta 1) && decide (104 < (x.1 : Int)))
theorem rows_far : caseT.all rowFar = true := by decide +kernel
theorem row_far (i : Nat) (h : i < caseA.size) : rowFar (caseA.getD i (0, 0, 0, 0, 0)) = true := by
  have hl : i < caseT.length := by simpa [caseA] using h
  have e : caseA.getD i (0, 0, 0, 0, 0) = caseT[i] := by simp [caseA, Array.getD, hl]
  rw [e]
  exact List.all_eq_true.1 rows_far _ (List.getElem_mem hl)
theorem lower_high (r : Nat) (h : 128 ≤ r) : hexI (toLowerU r) < 0 := by
  have hx : 102 < toLowerU r := by
    unfold toLowerU
    rw [if_neg (by omega)]
    unfold toR lookupGo
    cases hi : lookupIdx caseA r (caseA.size + 1) 0 caseA.size with
    | none => simp only [Option.map_none]; omega
    | some i =>
      obtain ⟨hil, hlo, hhi⟩ := lookupIdx_some caseA r _ _ _ i hi
      have hf := row_far i hil
      unfold rowFar at hf
      simp only [Option.map_some]
      generalize caseA.getD i (0, 0, 0, 0, 0) = x at *
      simp only [Bool.or_eq_true, Bool.and_eq_true, decide_eq_true_eq] at hf
      unfold convertR
      split
      · rcases hf with hf | hf
        · omega
        · omega
      · rcases hf with hf | hf
        · omega
        · omega
  unfold hexI
  rw [if_neg (by omega), if_neg (by omega)]
  omega
theorem lower_low : ∀ b : UInt8, b.toNat < 128 → hexI (toLowerU b.toNat) = hexV b ∧ (0 ≤ toLowerU b.toNat ∧ toLowerU b.toNat < 128) := forall_u8 (by decide +kernel)
theorem hexV_high (b : UInt8) (h : 128 ≤ b.toNat) : hexV b = -1 := by
  unfold hexV
  rw [if_neg (by omega), if_neg (by omega), if_neg (by omega)]
theorem enc_bad (x : Int) (h0 : 0 ≤ x) (h : ¬ IsPoint x) : encodeRune x = encodeRune 65533 := by
  have e : ¬ (0 ≤ x ∧ x ≤ 127) := fun h1 => h (by unfold IsPoint; omega)
  have e2 : encodeRuneZ x = encodeRuneZ 65533 := by
    unfold IsPoint at h
    unfold encodeRuneZ
    repeat' split
    all_goals first | rfl | omega
  unfold encodeRune
  rw [e2]
theorem enc_ne (x : Int) (h : IsPoint x) (m : List UInt8) : encodeRune x ++ m ≠ [] := by
  intro e
  have := (enc_hit x h m).1
  have h2 := congrArg List.length e
  simp at h2
  rw [h2.1] at this
  simp at this
theorem pieces_enc (x : Int) (h : IsPoint x) (m : List UInt8) : pieces (encodeRune x ++ m) = ((encodeRune x).length, x.toNat) :: pieces m := by
  obtain ⟨h1, h2⟩ := enc_head x h m
  rw [pieces_step _ (enc_ne x h m), h2, List.drop_left]
  have : ((decodeL (encodeRune x ++ m)).1 : Int) = x := by
    have hp := h1
    unfold headP at hp
    split at hp
    · unfold IsPoint at h; omega
    · exact hp
  rw [show (decodeL (encodeRune x ++ m)).1 = x.toNat by omega]
theorem lower_step (l : List UInt8) (hne : l ≠ []) (n : Int) :
    loopU (pieces (toLowerD l)) n = (if hexI (toLowerU (decodeL l).1) < 0 then -1 else loopU (pieces (toLowerD (l.drop (decodeL l).2))) (n * 16 + hexI (toLowerU (decodeL l).1))) ∧
    (pieces (toLowerD l)).length = (pieces (toLowerD (l.drop (decodeL l).2))).length + 1 := by
  have hr : (decodeL l).1 ≤ 1114111 := by
    have := headP_le l
    rcases dec_point l hne with h | h
    · omega
    · unfold IsPoint at h; omega
  have h0 := (toLowerU_range _ hr).1
  have e : toLowerD l = encodeRune (toLowerU (decodeL l).1) ++ toLowerD (l.drop (decodeL l).2) := by
    unfold toLowerD
    rw [mapD_step _ l hne, if_pos h0]
  rw [e]
  by_cases hp : IsPoint (toLowerU (decodeL l).1)
  · rw [pieces_enc _ hp]
    refine ⟨?_, rfl⟩
    simp only [loopU]
    rw [show ((toLowerU (decodeL l).1).toNat : Int) = toLowerU (decodeL l).1 by omega]
  · rw [enc_bad _ h0 hp, pieces_enc 65533 (by unfold IsPoint; decide)]
    refine ⟨?_, rfl⟩
    have hneg : hexI (toLowerU (decodeL l).1) < 0 := by
      unfold IsPoint at hp
      unfold hexI
      rw [if_neg (by omega), if_neg (by omega)]
      omega
    simp only [loopU]
    rw [if_pos hneg, if_pos (by decide)]
theorem dec_high (b : UInt8) (t : List UInt8) (h : 128 ≤ b.toNat) : 128 ≤ (decodeL (b :: t)).1 := by
  by_cases hex : ∃ k, 1 ≤ k ∧ k ≤ 4 ∧ k ≤ (b :: t).length ∧ Hit (b :: t) k
  · obtain ⟨k, h1, h4, hl, hh⟩ := hex
    rw [found _ k h1 h4 hl hh]
    have hlen : (encodeRune (candL (b :: t) k)).length = k := by rw [hh.2, List.length_take]; omega
    rcases (show k = 1 ∨ k = 2 ∨ k = 3 ∨ k = 4 by omega) with rfl | rfl | rfl | rfl
    · have := (Hit1 _ hl).1 hh
      simp at this
      omega
    all_goals rcases len_cases _ hh.1 with hc | hc | hc | hc <;> (simp only; omega)
  · rw [missed _ (by simp) (fun k h1 h4 hl hh => hex ⟨k, h1, h4, hl, hh⟩)]
    decide
theorem lower_cons (b : UInt8) (t : List UInt8) (n : Int) : loopU (pieces (toLowerD (b :: t))) n = if hexV b < 0 then -1 else loopU (pieces (toLowerD t)) (n * 16 + hexV b) := by
  rw [(lower_step (b :: t) (by simp) n).1]
  by_cases hb : b.toNat < 128
  · rw [decodeL_ascii b t hb]
    simp only [List.drop_succ_cons, List.drop_zero]
    rw [(lower_low b hb).1]
  · have h1 := lower_high _ (dec_high b t (by omega))
    rw [if_pos h1, hexV_high b (by omega), if_pos (by omega)]
theorem lower_len : ∀ (k : Nat) (l : List UInt8), l.length ≤ k → (pieces (toLowerD l)).length ≤ l.length
  | 0, l, h => by
    have : l = [] := List.length_eq_zero_iff.1 (by omega)
    subst this
    exact Nat.le_refl _
  | k + 1, l, h => by
    by_cases hne : l = []
    · subst hne; exact Nat.le_refl _
    · have h1 := headW_pos l
      unfold headW at h1
      have h2 := lower_len k (l.drop (decodeL l).2) (by rw [List.length_drop]; omega)
      have h3 : 1 ≤ l.length := by cases l with | nil => exact absurd rfl hne | cons => simp
      rw [(lower_step l hne 0).2]
      rw [List.length_drop] at h2
      omega
theorem hexV_lt (c : UInt8) : hexV c < 16 := by
  unfold hexV
  repeat' split
  all_goals omega
theorem unitL_cons (u a b c d : UInt8) (t : List UInt8) : unitL (u :: a :: b :: c :: d :: t) = if u = 117 ∧ 0 ≤ hexV a ∧ 0 ≤ hexV b ∧ 0 ≤ hexV c ∧ 0 ≤ hexV d then ((hexV a * 16 + hexV b) * 16 + hexV c) * 16 + hexV d else -1 := rfl
theorem unit_eq (u a b c d : UInt8) (t : List UInt8) (hu : u = 117) : loopU (pieces (toLowerD [a, b, c, d])) 0 = unitL (u :: a :: b :: c :: d :: t) := by
  rw [lower_cons, lower_cons, lower_cons, lower_cons, unitL_cons]
  by_cases h1 : hexV a < 0
  · rw [if_pos h1, if_neg (by rintro ⟨_, h, _⟩; omega)]
  · rw [if_neg h1]
    by_cases h2 : hexV b < 0
    · rw [if_pos h2, if_neg (by rintro ⟨_, _, h, _⟩; omega)]
    · rw [if_neg h2]
      by_cases h3 : hexV c < 0
      · rw [if_pos h3, if_neg (by rintro ⟨_, _, _, h, _⟩; omega)]
      · rw [if_neg h3]
        by_cases h4 : hexV d < 0
        · rw [if_pos h4, if_neg (by rintro ⟨_, _, _, _, h⟩; omega)]
        · rw [if_neg h4, if_pos ⟨hu, by omega, by omega, by omega, by omega⟩]
          show (((0 * 16 + hexV a) * 16 + hexV b) * 16 + hexV c) * 16 + hexV d = _
          omega
theorem unitL_range (l : List UInt8) : -1 ≤ unitL l ∧ unitL l < 65536 := by
  unfold unitL
  split
  · rename_i u a b c d t
    have ha := hexV_lt a; have hb := hexV_lt b; have hc := hexV_lt c; have hd := hexV_lt d
    split <;> omega
  · omega
theorem unit_short {l : List UInt8} (h : l.length ≤ 4) : unitL l = -1 := by
  unfold unitL
  split
  · simp at h
  · rfl
theorem unit_other {l : List UInt8} (h : l[0]? ≠ some 117) : unitL l = -1 := by
  unfold unitL
  split
  · rename_i u a b c d t
    rw [if_neg]
    rintro ⟨rfl, _⟩
    exact h rfl
  · rfl
theorem five {l : List UInt8} (h : 4 < l.length) : ∃ u a b c d t, l = u :: a :: b :: c :: d :: t := by
  match l, h with
  | u :: a :: b :: c :: d :: t, _ => exact ⟨u, a, b, c, d, t, rfl⟩
open Go.RowKit in
set_option maxRecDepth 100000 in
theorem unit_any (s : ByteArray) (w : World) (hT : Tabs w) (hs : s.size ≤ 140737488355328) :
    Calls Tryd.prog 77 #[.string s] w fun e w' => e = .returned (.int .i32 (unitL s.data.toList)) ∧ Below w.heap.size w w' := by
  by_cases h5 : 4 < s.size
  · by_cases hu : s[0].toNat = 117
    · obtain ⟨u, a, b, c, d, t, hl⟩ := five (l := s.data.toList) (by rw [← Lib.size_eq]; exact h5)
      have ht : (s.data.toList.drop 1).take 4 = [a, b, c, d] := by rw [hl]; rfl
      have h0 := list_at s 0 (by omega)
      rw [hl] at h0
      have hu' : u = 117 := by
        have : u = s[0] := Option.some.inj h0
        rw [this]
        exact UInt8.toNat_inj.1 hu
      have hf : from_ ⟨(toLowerD ((s.data.toList.drop 1).take 4)).toArray⟩ 0 = pieces (toLowerD [a, b, c, d]) := by
        rw [ht]
        unfold from_
        simp
      have := unit_walk s w hT hs h5 hu _ rfl (by rw [hf]; exact lower_len 4 _ (by simp))
      rw [hf, unit_eq u a b c d t hu'] at this
      rw [hl]
      exact this
    · have h0 := list_at s 0 (by omega)
      have e : unitL s.data.toList = -1 := unit_other (by
        rw [h0]
        intro e
        rw [Option.some.inj e] at hu
        exact hu rfl)
      rw [e]
      have e5 : decide ((s.size : Int) ≤ 4) = false := by simp; omega
      have e0 : ((s[0].toNat : Int) == 117) = false := beq_eq_false_iff_ne.2 (by omega)
      clear h0 e
      go_enter Tryd.func77, Tryd.ntmps77
      go_wp2
      go_ret
      exact ⟨rfl, Below.refl _ _⟩
  · rw [unit_short (by rw [← Lib.size_eq]; omega)]
    have e5 : decide ((s.size : Int) ≤ 4) = true := by simp; omega
    go_enter Tryd.func77, Tryd.ntmps77
    go_wp2
    go_ret
    exact ⟨rfl, Below.refl _ _⟩
end Go.Proofs.Jt
