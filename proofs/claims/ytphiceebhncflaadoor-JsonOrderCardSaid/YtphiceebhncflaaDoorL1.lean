/- JtextTiles: the walk. -/
import Derived.Test.YtphiceebhncflaaDoorJ9
namespace Go.Proofs.Jt
open Go.RowKit Go.Proofs Go.Lib Go.Proofs.Utf

theorem cut_list2 (s : ByteArray) (n : Nat) : (s.extract 0 n).size ≤ n ∧ (s.extract 0 n).size ≤ s.size := by rw [ByteArray.size_extract]; omega
/-- what Tokens answers, as one contract -/
theorem tokens_any (s : ByteArray) (w : World) (hT : Tabs w) (hs : s.size ≤ 16777216) :
    Calls Tryd.prog 14 #[.string s] w fun e w' => ∃ v, e = .returned (.tuple #[v, .int .i64 ((toksL s.data.toList).2.1 : Nat), .int .i64 ((toksL s.data.toList).2.2 : Nat)]) ∧ w'.ownsRow w.heap.size 32 4 v (toksL s.data.toList).1.length (tokCells (toksL s.data.toList).1) ∧ Below w.heap.size w w' := by
  unfold toksL
  cases hv : validD s.data.toList with
  | true => exact tokens_walk s w hT hs hv _ rfl
  | false =>
    refine (tokens_broken s w hT hs hv).mono ?_
    rintro e w' ⟨rfl, hb⟩
    exact ⟨_, rfl, World.ownsRow_nil _ _ _ _, hb⟩
theorem br_lt : ∀ (k : Nat) (l : List UInt8) (at_ : Nat), l.length ≤ k → validD l = false → br l at_ < at_ + l.length
  | _, [], _, _, h => by cases h
  | 0, c :: t, _, hk, _ => by simp at hk
  | k + 1, c :: t, at_, hk, h => by
    rw [br_step _ _ (by simp)]
    rw [validD_step _ (by simp)] at h
    have hw := headW_pos (c :: t)
    split
    · rename_i hp
      unfold isPt at hp
      rw [if_neg (of_decide_eq_true hp)] at h
      simp only [List.length_cons] at hk
      have := br_lt k ((c :: t).drop (headW (c :: t))) (at_ + headW (c :: t)) (by rw [List.length_drop, List.length_cons]; omega) h
      rw [List.length_drop, List.length_cons] at this
      simp only [List.length_cons]
      have h2 := headW_le (c :: t) (by simp)
      simp only [List.length_cons] at h2
      omega
    · simp
theorem toks_tiles (l : List UInt8) : ((toksL l).2.2 = 0 ∧ Tiles l 0 (toksL l).1) ∨ ((toksL l).2.2 ≠ 0 ∧ (toksL l).1 = [] ∧ (toksL l).2.1 < l.length) := by
  unfold toksL
  cases hv : validD l with
  | true =>
    rw [if_pos rfl]
    have := tt_tiles l l.length 0 0 [] (by omega) (Nat.zero_le _) (Nat.le_refl _) (fun j h1 h2 => by omega)
    rw [List.drop_zero] at this
    unfold tt at this
    rcases this with ⟨h1, _, new, h3, h4⟩ | ⟨h1, h2, h3⟩
    · exact .inl ⟨h1, by rw [h3]; exact h4⟩
    · exact .inr ⟨by rw [h1]; decide, h2, h3⟩
  | false =>
    rw [if_neg (by decide)]
    have := br_lt l.length l 0 (Nat.le_refl _) hv
    exact .inr ⟨(by decide : (8 : Nat) ≠ 0), rfl, by unfold br at this; simpa using this⟩
theorem Tiles.at_ {l : List UInt8} : ∀ {ts : List Tok} {p : Nat} (k : Nat) {t : Tok}, Tiles l p ts → ts[k]? = some t → ∀ q, q = (if k = 0 then p else (ts.getD (k - 1) ⟨0, [], 0, 0⟩).to_) →
    q ≤ t.fr ∧ t.fr < t.to_ ∧ t.to_ ≤ l.length ∧ Blk l q t.fr ∧ (t.kind ≠ 4 → t.text = (l.drop t.fr).take (t.to_ - t.fr))
  | [], _, k, t, _, h, _, _ => by simp at h
  | u :: ts, p, 0, t, h, hk, q, hq => by
    simp at hk hq
    subst hk hq
    exact ⟨h.1, h.2.1, h.2.2.1, h.2.2.2.1, h.2.2.2.2.1⟩
  | u :: ts, p, k + 1, t, h, hk, q, hq => by
    simp at hk hq
    refine Tiles.at_ k (p := u.to_) h.2.2.2.2.2 hk q ?_
    rw [hq]
    cases k with
    | zero => simp
    | succ k => simp
theorem toks_few {w : World} {B e : Nat} {v : Value} {l : List Tok} (h : w.ownsRow B e 4 v l.length (tokCells l)) : (l.length : Int) ≤ 9223372036854775807 := by
  rcases h.2 with ⟨_, h2⟩ | ⟨g, cap, cur, h1, h2, h3, h4, h5, h6⟩
  · omega
  · unfold maxLen at h5; omega
theorem Tiles.drop1 {l : List UInt8} {p : Nat} {t : Tok} {ts : List Tok} (h : Tiles l p (t :: ts)) : Tiles l t.to_ ts := h.2.2.2.2.2
theorem cut_text (s : ByteArray) (a b : Nat) : (⟨((s.data.toList.drop a).take (b - a)).toArray⟩ : ByteArray) = s.extract a b := by
  apply ByteArray.ext
  apply Array.toList_inj.1
  rw [Lib.extract_data]
theorem extract_end (s : ByteArray) (a : Nat) : s.extract a s.size = s.extract a s.data.toList.length := by rw [← Lib.size_eq]
set_option maxRecDepth 100000 in
set_option maxHeartbeats 800000 in
theorem tiles_walk (s0 : ByteArray) (w : World) (hT : Tabs w) (hs0 : s0.size ≤ 9223372036854775807) :
    Calls Tryd.prog 4 #[.string s0] w fun e w' => e = .returned (.bool true) ∧ Below w.heap.size w w' := by
  have hcut := cut_any s0 w hs0
  obtain ⟨s, hs⟩ : ∃ s, s0.extract 0 (min s0.size 2000) = s := ⟨_, rfl⟩
  have hsz : s.size ≤ 2000 := by rw [← hs, ByteArray.size_extract]; omega
  rw [hs] at hcut
  have hc := tokens_any s w hT (by omega)
  have htl := toks_tiles s.data.toList
  obtain ⟨R, hR⟩ : ∃ R, toksL s.data.toList = R := ⟨_, rfl⟩
  rw [hR] at hc htl
  obtain ⟨T, pl, er⟩ := R
  simp only at hc htl
  clear hR hs
  rw [← Lib.size_eq] at htl
  rcases htl with ⟨rfl, ht⟩ | ⟨h1, rfl, h3⟩
  · have hE : ∀ (p q : Nat), q ≤ s.size → Blk s.data.toList p q → ∀ w, Calls Tryd.prog 17 #[.string (s.extract p q)] w fun e w' => e = .returned (.bool true) ∧ w' = w := fun p q hq hb w => blank_cut s p q w (by omega) hq hb
    go_enter Tryd.func4, Tryd.ntmps4
    go_wp2_with (first
      | (go_at_call 13; refine hcut.mono ?_; rintro e w1 ⟨rfl, hw⟩; subst hw)
      | (go_at_call 14; refine hc.mono ?_; rintro e w1 ⟨v, rfl, ho, hb⟩
         obtain ⟨p, cap, rfl⟩ := row_shape ho))
    have hfew := toks_few ho
    go_loopw [6, 7] (fun a i wr => ∃ (q k : Nat), a = .int .i64 q ∧ i = .int .i64 k ∧ k ≤ T.length ∧ q ≤ s.size ∧ Below w1.heap.size w1 wr ∧ Tiles s.data.toList q (T.drop k)) (fun _ i _ => T.length - (RowKit.intOf i).toNat)
    case atStart => exact ⟨0, 0, rfl, rfl, Nat.zero_le _, Nat.zero_le _, Below.refl _ _, ht⟩
    case round =>
      obtain ⟨q, k, rfl, rfl, hk, hq, hB, htk⟩ := hrel
      have HT := Lib.hid htk
      clear htk
      by_cases hkn : (k : Int) < (T.length : Int)
      · have hkl : k < T.length := by omega
        obtain ⟨g, cap', hv, hcap, hcell⟩ := toks_at ho (by omega)
        cases hv
        obtain ⟨t, ht'⟩ : ∃ t, T[k] = t := ⟨_, rfl⟩
        have hd : T.drop k = t :: T.drop (k + 1) := by rw [List.drop_eq_getElem_cons hkl, ht']
        have hti := HT.out
        rw [hd] at hti
        obtain ⟨j1, j2, j3, j4, j5, j6⟩ := hti
        obtain ⟨c0, c1, c2, c3, hg⟩ := hcell k t (by rw [List.getElem?_eq_getElem hkl, ht'])
        have a0 := (hB.cell (p := ⟨g, k * 4, none⟩) hg).trans c0
        have a1 := (hB.cell (p := ⟨g, k * 4 + 1, none⟩) hg).trans c1
        have a2 := (hB.cell (p := ⟨g, k * 4 + 2, none⟩) hg).trans c2
        have a3 := (hB.cell (p := ⟨g, k * 4 + 3, none⟩) hg).trans c3
        rw [← Lib.size_eq] at j3
        have d1 : decide (t.fr < q) = false := by simp; omega
        have d2 : decide (t.to_ ≤ t.fr) = false := by simp; omega
        have d3 : decide (s.size < t.to_) = false := by simp; omega
        have hbl := hE q t.fr (by omega) j4
        have b0 : (0 : Int) ≤ (q : Int) := by omega
        have b1 : (q : Int) ≤ (t.fr : Int) := by omega
        have b2 : (t.fr : Int) ≤ (s.size : Int) := by omega
        have b3 : (t.fr : Int) ≤ (t.to_ : Int) := by omega
        have b4 : (t.to_ : Int) ≤ (s.size : Int) := by omega
        have b5 : (0 : Int) ≤ (t.fr : Int) := by omega
        have HJ6 := Lib.hid j6
        clear c0 c1 c2 c3 hd ht' hcell j4
        by_cases hk4 : t.kind = 4
        · as_aux_lemma =>
            have d4 : ((t.kind : Int) != 4) = false := by rw [hk4]; rfl
            clear j5 j6 hk4
            go_wp2
            have x0 : (wr.alloc (.cells #[.int .i64 t.kind, .string ⟨t.text.toArray⟩, .int .i64 t.fr, .int .i64 t.to_] 32)).heap[wr.heap.size]? = some (.cells #[.int .i64 t.kind, .string ⟨t.text.toArray⟩, .int .i64 t.fr, .int .i64 t.to_] 32 (0, 0)) := Array.getElem?_push_size
            have hB2 : Below w1.heap.size w1 (wr.alloc (.cells #[.int .i64 t.kind, .string ⟨t.text.toArray⟩, .int .i64 t.fr, .int .i64 t.to_] 32)) := hB.alloc hB.size _
            generalize wr.alloc (.cells #[.int .i64 t.kind, .string ⟨t.text.toArray⟩, .int .i64 t.fr, .int .i64 t.to_] 32) = V at x0 hB2 ⊢
            generalize wr.heap.size = vb at x0 ⊢
            have y0 : V.cell? ⟨vb, 0, none⟩ = some (.int .i64 t.kind) := by rw [cell_of_row _ _ 0 _ _ _ x0]; rfl
            have y1 : V.cell? ⟨vb, 1, none⟩ = some (.string ⟨t.text.toArray⟩) := by rw [cell_of_row _ _ 1 _ _ _ x0]; rfl
            have y2 : V.cell? ⟨vb, 2, none⟩ = some (.int .i64 t.fr) := by rw [cell_of_row _ _ 2 _ _ _ x0]; rfl
            have y3 : V.cell? ⟨vb, 3, none⟩ = some (.int .i64 t.to_) := by rw [cell_of_row _ _ 3 _ _ _ x0]; rfl
            have hq17 : ∀ n, Calls Tryd.prog 17 #[.string (s.extract q t.fr)] (V.drewN n) fun e w'' => e = .returned (.bool true) ∧ ∃ m, w'' = V.drewN m := fun n => (hbl _).mono fun e w' h => ⟨h.1, n, h.2⟩
            clear a0 a1 a2 a3 hE hc hcut hbl
            go_big_quiet ((exact hq17 _))
            go_wp2
            exact ⟨⟨t.to_, k + 1, rfl, by go_num, by omega, by omega, below_draws hB2 _, HJ6.out⟩, by simp [RowKit.intOf]; omega⟩
        · as_aux_lemma =>
            have d4 : ((t.kind : Int) != 4) = true := by simp; omega
            rw [j5 hk4, cut_text] at a1
            clear j5 j6 hk4
            go_wp2
            have x0 : (wr.alloc (.cells #[.int .i64 t.kind, .string (s.extract t.fr t.to_), .int .i64 t.fr, .int .i64 t.to_] 32)).heap[wr.heap.size]? = some (.cells #[.int .i64 t.kind, .string (s.extract t.fr t.to_), .int .i64 t.fr, .int .i64 t.to_] 32 (0, 0)) := Array.getElem?_push_size
            have hB2 : Below w1.heap.size w1 (wr.alloc (.cells #[.int .i64 t.kind, .string (s.extract t.fr t.to_), .int .i64 t.fr, .int .i64 t.to_] 32)) := hB.alloc hB.size _
            generalize wr.alloc (.cells #[.int .i64 t.kind, .string (s.extract t.fr t.to_), .int .i64 t.fr, .int .i64 t.to_] 32) = V at x0 hB2 ⊢
            generalize wr.heap.size = vb at x0 ⊢
            have y0 : V.cell? ⟨vb, 0, none⟩ = some (.int .i64 t.kind) := by rw [cell_of_row _ _ 0 _ _ _ x0]; rfl
            have y1 : V.cell? ⟨vb, 1, none⟩ = some (.string (s.extract t.fr t.to_)) := by rw [cell_of_row _ _ 1 _ _ _ x0]; rfl
            have y2 : V.cell? ⟨vb, 2, none⟩ = some (.int .i64 t.fr) := by rw [cell_of_row _ _ 2 _ _ _ x0]; rfl
            have y3 : V.cell? ⟨vb, 3, none⟩ = some (.int .i64 t.to_) := by rw [cell_of_row _ _ 3 _ _ _ x0]; rfl
            have hq17 : ∀ n, Calls Tryd.prog 17 #[.string (s.extract q t.fr)] (V.drewN n) fun e w'' => e = .returned (.bool true) ∧ ∃ m, w'' = V.drewN m := fun n => (hbl _).mono fun e w' h => ⟨h.1, n, h.2⟩
            clear a0 a1 a2 a3 hE hc hcut hbl
            go_big_quiet ((exact hq17 _))
            go_wp2
            exact ⟨⟨t.to_, k + 1, rfl, by go_num, by omega, by omega, below_draws hB2 _, HJ6.out⟩, by simp [RowKit.intOf]; omega⟩
      · as_aux_lemma =>
          have hkk : k = T.length := by omega
          have htl := HT.out
          rw [hkk, List.drop_length] at htl
          have hbl := fun w => hE q s.size (Nat.le_refl _) (fun j h1 h2 => htl j h1 (by rw [← Lib.size_eq]; exact h2)) w
          clear htl
          have b1 : (q : Int) ≤ (s.size : Int) := by omega
          go_wp2_with (first
            | (go_at_call 17; refine (hbl _).mono ?_; rintro e w3 ⟨rfl, rfl⟩)
            | (go_at_call 16; refine (awake_any _ (hT.below (hb.trans (hB.mono hb.size)))).mono ?_; rintro e w4 ⟨rfl, hb4⟩))
          go_ret
          have hz := (hb.trans (hB.mono hb.size))
          exact ⟨rfl, hz.trans (hb4.mono hz.size)⟩
  · as_aux_lemma =>
      have e1 : ((er : Int) != 0) = true := by simp; omega
      have e3 : (pl : Int) < (s.size : Int) := by omega
      go_enter Tryd.func4, Tryd.ntmps4
      go_wp2_with (first
        | (go_at_call 13; refine hcut.mono ?_; rintro e w1 ⟨rfl, hw⟩; subst hw)
        | (go_at_call 14; refine hc.mono ?_; rintro e w1 ⟨v, rfl, ho, hb⟩
           obtain ⟨p, cap, rfl⟩ := row_shape ho)
        | (go_at_call 16; refine (awake_any _ (hT.below hb)).mono ?_; rintro e w2 ⟨rfl, hb2⟩))
      go_ret
      exact ⟨rfl, hb.trans (hb2.mono hb.size)⟩
end Go.Proofs.Jt
