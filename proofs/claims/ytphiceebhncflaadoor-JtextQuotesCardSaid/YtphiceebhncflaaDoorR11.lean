/- The walk of the reference's Tokens. -/
import Derived.Test.YtphiceebhncflaaDoorR10b
namespace Go.Proofs.Jt
open Go.RowKit Go.Proofs Go.Lib Go.Proofs.Utf

theorem info31 : (Tryd.prog.info? 31).map (fun i => (i.zero, i.size, i.bytes)) = some (some (.agg #[.int .i64 0, .string ⟨#[]⟩, .int .i64 0, .int .i64 0]), 4, 40) := by kernel_rfl
theorem blank_four {c : UInt8} (h : isBlankB c = false) : c ≠ 32 ∧ c ≠ 9 ∧ c ≠ 10 ∧ c ≠ 13 := by
  have : ∀ c : UInt8, isBlankB c = false → c ≠ 32 ∧ c ≠ 9 ∧ c ≠ 10 ∧ c ≠ 13 := forall_u8 (by decide +kernel)
  exact this c h
set_option maxRecDepth 100000 in
set_option maxHeartbeats 4000000 in
theorem tokens_ref_valid (s : ByteArray) (w : World) (hs : s.size ≤ 16777216) (hv : validD s.data.toList = true) (R : List Tok × Nat × Nat) (hR : tt s.data.toList 0 [] = R) :
    Calls Tryd.prog 15 #[.string s] w fun e w' => ∃ v, e = .returned (.tuple #[v, .int .i64 (R.2.1 : Nat), .int .i64 (R.2.2 : Nat)]) ∧ w'.ownsRow w.heap.size 31 4 v R.1.length (tokCells R.1) ∧ Below w.heap.size w w' := by
  have hbr := broken_ref s w hs
  unfold brokenI at hbr
  rw [hv, if_pos rfl] at hbr
  have hnx := fun i hi w => next_any s i w hs hi
  clear hv
  go_enter Tryd.func15, Tryd.ntmps15
  go_wp2_with (first
    | (go_at_call 35; refine hbr.mono ?_; rintro e w1 ⟨rfl, hw⟩; subst hw))
  go_loopw [6, 7] (fun v a wr => ∃ (at_ : Nat) (toks : List Tok), a = .int .i64 at_ ∧ at_ ≤ s.size ∧ toks.length ≤ at_ ∧ wr.ownsRow w1.heap.size 31 4 v toks.length (tokCells toks) ∧ Below w1.heap.size w1 wr ∧ tt (s.data.toList.drop at_) at_ toks = R) (fun _ a _ => s.size - (RowKit.intOf a).toNat)
  case atStart => exact ⟨0, [], rfl, Nat.zero_le _, Nat.le_refl _, World.ownsRow_nil _ _ _ _, Below.refl _ _, hR⟩
  case round =>
    obtain ⟨at_, toks, rfl, hat, htl, hown, hB, htt⟩ := hrel
    have HR := Lib.hid htt
    clear htt
    by_cases hlt : (at_ : Int) < (s.size : Int)
    · have hlt' : at_ < s.size := by omega
      have hct := drop_cons s at_ hlt'
      have HCT := Lib.hid hct
      clear hct
      cases hbk : isBlankB s[at_] with
      | true =>
        have hr : tt (s.data.toList.drop (at_ + 1)) (at_ + 1) toks = R := by
          have e := HR.out
          rw [HCT.out, tt_blank _ _ _ _ hbk] at e
          exact e
        have HR2 := Lib.hid hr
        have hcs := blank_cases _ hbk
        clear hr hbk hnx
        rcases hcs with h | h | h | h
        · as_aux_lemma =>
            have t0 : ((s[at_].toNat : Int) == 32) = true := by rw [h]; rfl
            clear h
            go_wp2
            go_roundw
            case rel => exact ⟨at_ + 1, toks, by go_num, by omega, by omega, hown, hB, HR2.out⟩
            case measure => simp [RowKit.intOf]; omega
        · as_aux_lemma =>
            have t0 : ((s[at_].toNat : Int) == 32) = false := by rw [h]; rfl
            have t1 : ((s[at_].toNat : Int) == 9) = true := by rw [h]; rfl
            clear h
            go_wp2
            go_roundw
            case rel => exact ⟨at_ + 1, toks, by go_num, by omega, by omega, hown, hB, HR2.out⟩
            case measure => simp [RowKit.intOf]; omega
        · as_aux_lemma =>
            have t0 : ((s[at_].toNat : Int) == 32) = false := by rw [h]; rfl
            have t1 : ((s[at_].toNat : Int) == 9) = false := by rw [h]; rfl
            have t2 : ((s[at_].toNat : Int) == 10) = true := by rw [h]; rfl
            clear h
            go_wp2
            go_roundw
            case rel => exact ⟨at_ + 1, toks, by go_num, by omega, by omega, hown, hB, HR2.out⟩
            case measure => simp [RowKit.intOf]; omega
        · as_aux_lemma =>
            have t0 : ((s[at_].toNat : Int) == 32) = false := by rw [h]; rfl
            have t1 : ((s[at_].toNat : Int) == 9) = false := by rw [h]; rfl
            have t2 : ((s[at_].toNat : Int) == 10) = false := by rw [h]; rfl
            have t3 : ((s[at_].toNat : Int) == 13) = true := by rw [h]; rfl
            clear h
            go_wp2
            go_roundw
            case rel => exact ⟨at_ + 1, toks, by go_num, by omega, by omega, hown, hB, HR2.out⟩
            case measure => simp [RowKit.intOf]; omega
      | false =>
        obtain ⟨n0, n1, n2, n3⟩ := blank_four hbk
        have t0 : ((s[at_].toNat : Int) == 32) = false := byte_not n0
        have t1 : ((s[at_].toNat : Int) == 9) = false := byte_not n1
        have t2 : ((s[at_].toNat : Int) == 10) = false := byte_not n2
        have t3 : ((s[at_].toNat : Int) == 13) = false := byte_not n3
        have hc := hnx at_ hlt'
        unfold Nx nxIs at hc
        cases hx : nextL (s.data.toList.drop at_) with
        | none =>
          rw [hx] at hc
          simp only at hc
          have hr : ([], at_, 4) = R := by
            have e := HR.out
            rw [HCT.out] at hx e
            rw [tt_none _ _ _ _ hbk hx] at e
            exact e
          subst hr
          clear hnx hx hbk n0 n1 n2 n3
          go_wp2_with (first
            | (go_at_call 36; refine (hc _).mono ?_; rintro e w2 ⟨v, rfl, ⟨k, x, f, rfl, _⟩, hb2⟩))
          go_ret3
          exact ⟨_, rfl, World.ownsRow_nil _ _ _ _, (hB.trans (hb2.mono hB.size)).alloc (by have := hB.size; have := hb2.size; omega) _⟩
        | some r =>
          obtain ⟨k, x, m⟩ := r
          rw [hx] at hc
          simp only at hc
          have hm := nextL_le _ _ hx
          rw [List.length_drop, ← Lib.size_eq] at hm
          simp only at hm
          have hr : tt (s.data.toList.drop (at_ + m)) (at_ + m) (toks ++ [⟨k, x, at_, at_ + m⟩]) = R := by
            have e := HR.out
            rw [HCT.out] at hx e
            rw [tt_some _ _ _ _ hbk hx, ← HCT.out, List.drop_drop] at e
            exact e
          obtain ⟨q, hq⟩ : ∃ q, at_ + m = q := ⟨_, rfl⟩
          rw [hq] at hr hc
          have HR2 := Lib.hid hr
          have u1 : ((q : Int) == 0) = false := beq_eq_false_iff_ne.2 (by omega)
          have hq1 : q ≤ s.size := by omega
          have hq2 : at_ < q := by omega
          obtain ⟨i31_, hi31, hz0, hz1, hz2⟩ := info_parts info31
          clear hnx hx hbk n0 n1 n2 n3 hr hq hm
          go_wp2_with (first
            | (go_at_call 36; refine (hc _).mono ?_; rintro e w2 ⟨v, rfl, rfl, hb2⟩
               have own2 := own_below hown hb2
               have D2 : Below w1.heap.size w1 w2 := hB.trans (hb2.mono hB.size)
               have zz := D2.size)
            | (at_builtin; refine wpList_append_own _ rfl (.tmp 49) (.tmp 51) 27 rfl w1.heap.size 31 i31_ _ 4 40 Tryd.underlying27 hi31 hz0 hz1 hz2 rfl (by decide) _ _ _ rfl ((own2.alloc _).alloc _) ⟨w2.heap.size + 1, 0, none⟩ 1 1 [.int .i64 k, .string ⟨x.toArray⟩, .int .i64 at_, .int .i64 q] rfl rfl (cells_at_new _ [.int .i64 k, .string ⟨x.toArray⟩, .int .i64 at_, .int .i64 q] 31 _ (by simp)) (tok_ones _ _ _ _) (by unfold maxLen; omega) (by omega) (by simp; omega) ?_; intro v' w' hown' hg' hnil'
               have HD := ((D2.alloc zz _).alloc (by simp; omega) _).grown hg' (by simp; omega) (fun q hq => (own2.lt q hq).1)
               have hc3 : w'.cell? ⟨w2.heap.size, 3, none⟩ = some (.int .i64 q) := hg'.cell (by go_simp) (by
                 intro e
                 have := (own2.lt _ e.symm).2
                 simp at this)
               clear hg' hnil'))
          go_roundw
          case rel =>
            refine ⟨q, toks ++ [⟨k, x, at_, q⟩], rfl, by omega, by simp; omega, ?_, HD, HR2.out⟩
            rw [tokCells_snoc]
            simpa [tokCell] using hown'
          case measure => simp [RowKit.intOf]; omega
    · have hd : s.data.toList.drop at_ = [] := List.drop_eq_nil_of_le (by rw [← Lib.size_eq]; omega)
      have e := HR.out
      rw [hd, tt_nil] at e
      have HE := Lib.hid e
      clear e
      obtain ⟨p, cap, rfl⟩ := row_shape hown
      go_wp2
      go_ret3
      rw [← HE.out]
      exact ⟨_, rfl, hown, hB⟩
/-- what the reference's Tokens answers -/
theorem tokens_ref (s : ByteArray) (w : World) (hs : s.size ≤ 16777216) :
    Calls Tryd.prog 15 #[.string s] w fun e w' => ∃ v, e = .returned (.tuple #[v, .int .i64 ((toksL s.data.toList).2.1 : Nat), .int .i64 ((toksL s.data.toList).2.2 : Nat)]) ∧ w'.ownsRow w.heap.size 31 4 v (toksL s.data.toList).1.length (tokCells (toksL s.data.toList).1) ∧ Below w.heap.size w w' := by
  unfold toksL
  cases hv : validD s.data.toList with
  | true => exact tokens_ref_valid s w hs hv _ rfl
  | false =>
    have hbr := broken_ref s w hs
    unfold brokenI at hbr
    rw [hv, if_neg (by decide)] at hbr
    rw [if_neg (by decide)]
    show Calls Tryd.prog 15 #[.string s] w fun e w' => ∃ v, e = .returned (.tuple #[v, .int .i64 (br s.data.toList 0 : Nat), .int .i64 8]) ∧ w'.ownsRow w.heap.size 31 4 v 0 [] ∧ Below w.heap.size w w'
    clear hv
    go_enter Tryd.func15, Tryd.ntmps15
    go_wp2_with (first
      | (go_at_call 35; refine hbr.mono ?_; rintro e w1 ⟨rfl, hw⟩; subst hw))
    go_ret3
    exact ⟨_, rfl, World.ownsRow_nil _ _ _ _, Below.refl _ _⟩
end Go.Proofs.Jt
