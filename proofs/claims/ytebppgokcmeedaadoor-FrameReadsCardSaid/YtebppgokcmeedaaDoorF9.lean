/- FrameParts: the walk. -/
import Derived.Test.YtebppgokcmeedaaDoorF8
import Derived.Laws.AppendOwnNone
import Derived.Laws.AppendOwn
namespace Go.Proofs.Fr
open Go.RowKit Go.Proofs Go.Lib

/-- append(one, two...): both rows are the call's own. -/
theorem wp_app {w : World} {ops : Array Oper} {rest : List Oper} {o : Oper} {a : Act} {Q : Exit → Act → World → Prop} {b1 b2 : Nat} {v1 v2 : Value} {l1 l2 : List (List UInt8)} (hgd : o.guard = none) (s x : Operand)
    (ho : o.op = .call { callee := .builtin .append, args := #[s, x], argTypes := #[41, 41] }) (hs : a.eval s = v1) (h1 : w.ownsRow b1 9 1 v1 l1.length (strCells l1)) (hx : a.eval x = v2) (h2 : w.ownsRow b2 9 1 v2 l2.length (strCells l2))
    (hl : l1.length + l2.length ≤ 100000) (hb : b1 ≤ w.heap.size)
    (h : ∀ v' w', w'.ownsRow b1 9 1 v' (l1 ++ l2).length (strCells (l1 ++ l2)) → w.grownBy w' v1.ownBlock → wpList Tryd.prog ops Q rest (a.put o.dst v') w') : wpList Tryd.prog ops Q (o :: rest) a w := by
  obtain ⟨i9_, hi9, hz0, hz1, hz2⟩ := info_parts info9
  rcases h2.2 with ⟨rfl, hn⟩ | ⟨g, cap, cur, rfl, hbg, hg, hnc, hcm, hcs, htake⟩
  · have e2 : l2 = [] := List.eq_nil_of_length_eq_zero hn
    subst e2
    refine wpList_append_own_none hgd s x 41 ho b1 9 i9_ 1 Tryd.underlying41 hi9 v1 _ _ hs h1 hx ?_
    exact h v1 w (by simpa using h1) (World.grownBy.refl _ _)
  · refine wpList_append_own w hgd s x 41 ho b1 9 i9_ _ 1 16 Tryd.underlying41 hi9 hz0 hz1 hz2 rfl (by decide) v1 _ _ hs h1 ⟨g, 0, none⟩ l2.length cap (strCells l2) hx (by simp [strCells]) (h2.cells (g := g) rfl)
      (fun u hu => by unfold strCells at hu; obtain ⟨y, _, rfl⟩ := List.mem_map.1 hu; rfl) (by unfold maxLen; omega) (by omega) hb ?_
    intro v' w' h3 h4 _
    exact h v' w' (by rw [List.length_append]; unfold strCells at h3 ⊢; rw [List.map_append]; exact h3) h4

theorem parts_ok {t1 t2 : List UInt8} {bs1 bs2 bs : List (List UInt8)} {e2 e : Nat} {h1 h2 h : List UInt8} (d1 : Dr t1 bs1 0 h1) (d2 : Dr (h1 ++ t2) bs2 e2 h2) (d : Dr (t1 ++ t2) bs e h) : bs1 ++ bs2 = bs ∧ e2 = e := by
  have := (d1.more t2 d2).det d
  exact ⟨this.1, this.2.1⟩
theorem parts_bad {t1 t2 : List UInt8} {bs1 bs : List (List UInt8)} {e1 e : Nat} {h1 h : List UInt8} (he : e1 ≠ 0) (d1 : Dr t1 bs1 e1 h1) (d : Dr (t1 ++ t2) bs e h) : bs1 = bs ∧ e1 = e := by
  have := (d1.more_err he t2).det d
  exact ⟨this.1, this.2.1⟩
theorem ext_split (s : ByteArray) (n : Nat) : (s.extract 0 n).data.toList ++ (s.extract n s.size).data.toList = s.data.toList := by
  rw [Lib.extract_to_end]
  have : (s.extract 0 n).data.toList = s.data.toList.take n := by simp [ByteArray.data_extract]
  rw [this, List.take_append_drop]
theorem app_list (A B : ByteArray) : (A ++ B).data.toList = A.data.toList ++ B.data.toList := by rw [ByteArray.data_append, Array.toList_append]

set_option maxRecDepth 100000 in
set_option maxHeartbeats 40000000 in
theorem parts_walk (s0 : ByteArray) (at0 : Int) (w : World) (hT : MaxV w) (hs0 : s0.size ≤ 9223372036854775807) (ha : -9223372036854775808 ≤ at0 ∧ at0 ≤ 9223372036854775807) : Calls Tryd.prog 4 #[.string s0, .int .i64 at0] w fun e w' => e = .returned (.bool true) ∧ Below w.heap.size w w' := by
  have hcut := cut_any s0 w hs0
  obtain ⟨s, hs⟩ : ∃ s, s0.extract 0 (min s0.size 3000) = s := ⟨_, rfl⟩
  have hsz : s.size ≤ 3000 := by rw [← hs, ByteArray.size_extract]; omega
  rw [hs] at hcut
  clear hs hs0
  have hlt := hT.lt
  obtain ⟨n, hn, hns⟩ : ∃ n : Nat, n = (if at0 < 0 ∨ at0 > s.size then s.size / 2 else at0.toNat) ∧ n ≤ s.size := by
    refine ⟨_, rfl, ?_⟩
    split <;> omega
  obtain ⟨bs1, e1, h1, d1⟩ := Dr.ex _ (s.extract 0 n).data.toList (Nat.le_refl _)
  obtain ⟨bs, er, hq, d⟩ := Dr.ex _ s.data.toList (Nat.le_refl _)
  have hT1 : (s.extract 0 n).size ≤ n := by rw [ByteArray.size_extract]; omega
  have hT2 : (s.extract n s.size).size ≤ s.size - n := by rw [ByteArray.size_extract]; omega
  have f1 := d1.few
  have z1 := d1.size
  have fq := d.few
  rw [← Lib.size_eq] at f1 z1 fq
  obtain ⟨H1, hH1⟩ : ∃ H : ByteArray, (⟨h1.toArray⟩ : ByteArray) = H := ⟨_, rfl⟩
  have hH1l : H1.data.toList = h1 := by rw [← hH1]
  have hH1s : H1.size ≤ n := by rw [← hH1, size_mk']; omega
  have hp1 := fun w b r => push_any w b ⟨#[]⟩ (s.extract 0 n) r (by rw [size_mk']; simp only [List.length_nil]; omega)
  have hpq := fun w b r => push_any w b ⟨#[]⟩ s r (by rw [size_mk']; simp only [List.length_nil]; omega)
  simp only [empty_add] at hp1 hpq
  have hall1 := fun w hw b hb r => all_any w hw b hb (s.extract 0 n) (by omega) r d1 (by omega)
  have hallq := fun w hw b hb r => all_any w hw b hb s (by omega) r d (by omega)
  rw [hH1] at hall1
  have hns2 : (n : Int) ≤ (s.size : Int) := by omega
  obtain ⟨br, hbq⟩ : ∃ br, decide (er ≠ 0) = br := ⟨_, rfl⟩
  have HBQ := Lib.hid hbq
  have hl1 : bs1.length ≤ 3000 := by omega
  have hlq : bs.length ≤ 3000 := by omega
  by_cases he : e1 = 0
  · subst he
    obtain ⟨bs2, e2, h2, d2⟩ := Dr.ex _ (H1 ++ s.extract n s.size).data.toList (Nat.le_refl _)
    have hT3 : (H1 ++ s.extract n s.size).size ≤ 3000 := by rw [ByteArray.size_append]; omega
    have f2 := d2.few
    rw [← Lib.size_eq] at f2
    have hl2 : bs2.length ≤ 3000 := by omega
    have hall2 := fun w hw b hb r => all_any w hw b hb (H1 ++ s.extract n s.size) (by omega) r d2 (by omega)
    have hp2 := fun w b (r : RD w b H1 false) => push_any w b H1 (s.extract n s.size) r (by omega)
    have hd2 := d2
    rw [app_list, hH1l] at hd2
    have hdd := d
    rw [← ext_split s n] at hdd
    obtain ⟨heq, hee⟩ := parts_ok d1 hd2 hdd
    have HEQ : Hid (decide (bs1 ++ bs2 = bs) = true) := Lib.hid (decide_eq_true heq)
    have HBR : Hid (decide (e2 ≠ 0) = br) := Lib.hid (by rw [hee]; exact hbq)
    have ebr : (br == br) = true := by cases br <;> rfl
    have hl12 : (bs1 ++ bs2).length ≤ 6000 := by rw [List.length_append]; omega
    clear heq hee hd2 hdd d d1 d2 hbq hH1 hH1l f1 z1 fq f2
    by_cases c1 : at0 < 0
    · have hnv : n = s.size / 2 := by rw [hn, if_pos (.inl c1)]
      clear hn
      subst hnv
      have g1 : (s.size : Int) / 2 ≤ (s.size : Int) := by omega
      have g2 : 0 ≤ (s.size : Int) / 2 := by omega
      go_enter Tryd.func4, Tryd.ntmps4
      go_wp2_with (first
        | (go_at_call 10; refine hcut.mono ?_; rintro e wC ⟨rfl, hw⟩; subst hw)
        | (go_at_call 9; refine (new_any _).mono ?_; rintro e w2 ⟨rfl, hw2⟩
           have q2 : RD w2 w1.heap.size ⟨#[]⟩ false := (by rw [hw2]; exact RD.new w1)
           have b12 : Below w1.heap.size w1 w2 := (by rw [hw2]; exact (Below.refl _ _).alloc (Nat.le_refl _) _)
           have r2 := r1.below b12
           have b2 := b1.trans (b12.mono b1.size)
           have lt2 := q2.lt
           clear hw2 r1)
        | (go_at_call 9; refine (new_any _).mono ?_; rintro e w1 ⟨rfl, hw1⟩
           have r1 : RD w1 w.heap.size ⟨#[]⟩ false := (by rw [hw1]; exact RD.new w)
           have b1 : Below w.heap.size w w1 := (by rw [hw1]; exact (Below.refl _ _).alloc (Nat.le_refl _) _)
           have lt1 := r1.lt
           clear hw1)
        | (go_at_call 11; refine (hpq _ _ q7).mono ?_; rintro e w8 ⟨rfl, q8, g8⟩
           have z8 := g8.size
           have b8 := b7.trans (below_gb (by omega) b7.size g8)
           have R8 := R7.kept g8 (by intro e; have := Option.some.inj e; omega)
           have o8 := own_kept o7 g8 (by omega)
           clear q7 R7 o7)
        | (go_at_call 11; refine (hp2 _ _ r4).mono ?_; rintro e w5 ⟨rfl, r5, g5⟩
           have z5 := g5.size
           have b5 := b4.trans (below_gb (Nat.le_refl _) b4.size g5)
           have q5 := q4.kept g5 (by intro e; have := Option.some.inj e; omega)
           have o5 := own_kept o4 g5 (by omega)
           clear r4 q4 o4)
        | (go_at_call 11; refine (hp1 _ _ r2).mono ?_; rintro e w3 ⟨rfl, r3, g3⟩
           have z3 := g3.size
           have b3 := b2.trans (below_gb (Nat.le_refl _) b2.size g3)
           have q3 := q2.kept g3 (by intro e; have := Option.some.inj e; omega)
           clear r2 q2)
        | (go_at_call 18; refine (hallq _ (hT.below b8) _ (by omega) q8).mono ?_; rintro e w9 ⟨v9, rfl, o9, q9, g9⟩
           have z9 := g9.size
           have b9 := b8.trans (below_gb (by omega) b8.size g9)
           have R9 := R8.kept g9 (by intro e; have := Option.some.inj e; omega)
           have o89 := own_kept o8 g9 (by omega)
           have hsame := same_any w9 _ _ _ _ (StrsR.of_own o89) (StrsR.of_own o9) (by omega) (by omega)
           rw [HEQ.out] at hsame
           simp only [List.length_append] at hsame
           have sh7 := o89
           obtain ⟨p9, c9, rfl⟩ := row_shape o9
           clear q8 R8 o8)
        | (go_at_call 18; refine (hall2 _ (hT.below b5) _ hlt r5).mono ?_; rintro e w6 ⟨v6, rfl, o6, r6, g6⟩
           have z6 := g6.size
           have b6 := b5.trans (below_gb (Nat.le_refl _) b5.size g6)
           have q6 := q5.kept g6 (by intro e; have := Option.some.inj e; omega)
           have o56 := own_kept o5 g6 (by omega)
           obtain ⟨p6, c6, rfl⟩ := row_shape o6
           clear r5 q5 o5)
        | (go_at_call 18; refine (hall1 _ (hT.below b3) _ hlt r3).mono ?_; rintro e w4 ⟨v4, rfl, o4, r4, g4⟩
           have z4 := g4.size
           have b4 := b3.trans (below_gb (Nat.le_refl _) b3.size g4)
           have q4 := q3.kept g4 (by intro e; have := Option.some.inj e; omega)
           obtain ⟨p4, c4, rfl⟩ := row_shape o4
           clear r3 q3)
        | (at_builtin; refine wp_app (l1 := bs1) (l2 := bs2) rfl (.tmp 48) (.tmp 49) rfl rfl o56 rfl o6 (by (try simp only [List.length_nil]); omega) (by omega) ?_; intro v7 w7 o7 g7
           have hv4 : ∀ k, Value.ownBlock (.slice p4 bs1.length c4) = some k → w3.heap.size ≤ k := fun k hk => (o56.lt k hk).1
           have z7 := g7.size
           have b7 := b6.trans ((Below.refl _ _).grown g7 b6.size (fun k hk => by have := hv4 k hk; omega))
           have R7 := r6.kept g7 (fun e => by have := hv4 _ e.symm; omega)
           have q7 := q6.kept g7 (fun e => by have := hv4 _ e.symm; omega)
           obtain ⟨p7, c7, rfl⟩ := row_shape o7
           clear r6 q6 o56 g7)
        | (go_at_call 19; refine hsame.mono ?_; rintro e wS ⟨rfl, hwS⟩
           have RS := R9.below hwS
           have qS := q9.below hwS
           have bS := b9.trans (hwS.mono b9.size)
           have kr := broken_any _ _ _ _ RS
           have kq := broken_any _ _ _ _ qS
           rw [HBR.out] at kr
           rw [HBQ.out] at kq)
        | (go_at_call 16; refine kr.mono ?_; rintro e w4 ⟨rfl, hw⟩; subst hw)
        | (go_at_call 16; refine kq.mono ?_; rintro e w4 ⟨rfl, hw⟩; subst hw)
        | (go_at_call 17; refine (awake_any _ (hT.below bS)).mono ?_; rintro e wZ ⟨rfl, bZ⟩))
      go_ret
      exact ⟨rfl, bS.trans (bZ.mono bS.size)⟩
    by_cases c2 : at0 > (s.size : Int)
    · have hnv : n = s.size / 2 := by rw [hn, if_pos (.inr c2)]
      clear hn
      subst hnv
      have g1 : (s.size : Int) / 2 ≤ (s.size : Int) := by omega
      have g2 : 0 ≤ (s.size : Int) / 2 := by omega
      go_enter Tryd.func4, Tryd.ntmps4
      go_wp2_with (first
        | (go_at_call 10; refine hcut.mono ?_; rintro e wC ⟨rfl, hw⟩; subst hw)
        | (go_at_call 9; refine (new_any _).mono ?_; rintro e w2 ⟨rfl, hw2⟩
           have q2 : RD w2 w1.heap.size ⟨#[]⟩ false := (by rw [hw2]; exact RD.new w1)
           have b12 : Below w1.heap.size w1 w2 := (by rw [hw2]; exact (Below.refl _ _).alloc (Nat.le_refl _) _)
           have r2 := r1.below b12
           have b2 := b1.trans (b12.mono b1.size)
           have lt2 := q2.lt
           clear hw2 r1)
        | (go_at_call 9; refine (new_any _).mono ?_; rintro e w1 ⟨rfl, hw1⟩
           have r1 : RD w1 w.heap.size ⟨#[]⟩ false := (by rw [hw1]; exact RD.new w)
           have b1 : Below w.heap.size w w1 := (by rw [hw1]; exact (Below.refl _ _).alloc (Nat.le_refl _) _)
           have lt1 := r1.lt
           clear hw1)
        | (go_at_call 11; refine (hpq _ _ q7).mono ?_; rintro e w8 ⟨rfl, q8, g8⟩
           have z8 := g8.size
           have b8 := b7.trans (below_gb (by omega) b7.size g8)
           have R8 := R7.kept g8 (by intro e; have := Option.some.inj e; omega)
           have o8 := own_kept o7 g8 (by omega)
           clear q7 R7 o7)
        | (go_at_call 11; refine (hp2 _ _ r4).mono ?_; rintro e w5 ⟨rfl, r5, g5⟩
           have z5 := g5.size
           have b5 := b4.trans (below_gb (Nat.le_refl _) b4.size g5)
           have q5 := q4.kept g5 (by intro e; have := Option.some.inj e; omega)
           have o5 := own_kept o4 g5 (by omega)
           clear r4 q4 o4)
        | (go_at_call 11; refine (hp1 _ _ r2).mono ?_; rintro e w3 ⟨rfl, r3, g3⟩
           have z3 := g3.size
           have b3 := b2.trans (below_gb (Nat.le_refl _) b2.size g3)
           have q3 := q2.kept g3 (by intro e; have := Option.some.inj e; omega)
           clear r2 q2)
        | (go_at_call 18; refine (hallq _ (hT.below b8) _ (by omega) q8).mono ?_; rintro e w9 ⟨v9, rfl, o9, q9, g9⟩
           have z9 := g9.size
           have b9 := b8.trans (below_gb (by omega) b8.size g9)
           have R9 := R8.kept g9 (by intro e; have := Option.some.inj e; omega)
           have o89 := own_kept o8 g9 (by omega)
           have hsame := same_any w9 _ _ _ _ (StrsR.of_own o89) (StrsR.of_own o9) (by omega) (by omega)
           rw [HEQ.out] at hsame
           simp only [List.length_append] at hsame
           have sh7 := o89
           obtain ⟨p9, c9, rfl⟩ := row_shape o9
           clear q8 R8 o8)
        | (go_at_call 18; refine (hall2 _ (hT.below b5) _ hlt r5).mono ?_; rintro e w6 ⟨v6, rfl, o6, r6, g6⟩
           have z6 := g6.size
           have b6 := b5.trans (below_gb (Nat.le_refl _) b5.size g6)
           have q6 := q5.kept g6 (by intro e; have := Option.some.inj e; omega)
           have o56 := own_kept o5 g6 (by omega)
           obtain ⟨p6, c6, rfl⟩ := row_shape o6
           clear r5 q5 o5)
        | (go_at_call 18; refine (hall1 _ (hT.below b3) _ hlt r3).mono ?_; rintro e w4 ⟨v4, rfl, o4, r4, g4⟩
           have z4 := g4.size
           have b4 := b3.trans (below_gb (Nat.le_refl _) b3.size g4)
           have q4 := q3.kept g4 (by intro e; have := Option.some.inj e; omega)
           obtain ⟨p4, c4, rfl⟩ := row_shape o4
           clear r3 q3)
        | (at_builtin; refine wp_app (l1 := bs1) (l2 := bs2) rfl (.tmp 48) (.tmp 49) rfl rfl o56 rfl o6 (by (try simp only [List.length_nil]); omega) (by omega) ?_; intro v7 w7 o7 g7
           have hv4 : ∀ k, Value.ownBlock (.slice p4 bs1.length c4) = some k → w3.heap.size ≤ k := fun k hk => (o56.lt k hk).1
           have z7 := g7.size
           have b7 := b6.trans ((Below.refl _ _).grown g7 b6.size (fun k hk => by have := hv4 k hk; omega))
           have R7 := r6.kept g7 (fun e => by have := hv4 _ e.symm; omega)
           have q7 := q6.kept g7 (fun e => by have := hv4 _ e.symm; omega)
           obtain ⟨p7, c7, rfl⟩ := row_shape o7
           clear r6 q6 o56 g7)
        | (go_at_call 19; refine hsame.mono ?_; rintro e wS ⟨rfl, hwS⟩
           have RS := R9.below hwS
           have qS := q9.below hwS
           have bS := b9.trans (hwS.mono b9.size)
           have kr := broken_any _ _ _ _ RS
           have kq := broken_any _ _ _ _ qS
           rw [HBR.out] at kr
           rw [HBQ.out] at kq)
        | (go_at_call 16; refine kr.mono ?_; rintro e w4 ⟨rfl, hw⟩; subst hw)
        | (go_at_call 16; refine kq.mono ?_; rintro e w4 ⟨rfl, hw⟩; subst hw)
        | (go_at_call 17; refine (awake_any _ (hT.below bS)).mono ?_; rintro e wZ ⟨rfl, bZ⟩))
      go_ret
      exact ⟨rfl, bS.trans (bZ.mono bS.size)⟩
    · have hnv : at0 = (n : Int) := by rw [hn, if_neg (by omega)]; omega
      subst hnv
      clear hn
      go_enter Tryd.func4, Tryd.ntmps4
      go_wp2_with (first
        | (go_at_call 10; refine hcut.mono ?_; rintro e wC ⟨rfl, hw⟩; subst hw)
        | (go_at_call 9; refine (new_any _).mono ?_; rintro e w2 ⟨rfl, hw2⟩
           have q2 : RD w2 w1.heap.size ⟨#[]⟩ false := (by rw [hw2]; exact RD.new w1)
           have b12 : Below w1.heap.size w1 w2 := (by rw [hw2]; exact (Below.refl _ _).alloc (Nat.le_refl _) _)
           have r2 := r1.below b12
           have b2 := b1.trans (b12.mono b1.size)
           have lt2 := q2.lt
           clear hw2 r1)
        | (go_at_call 9; refine (new_any _).mono ?_; rintro e w1 ⟨rfl, hw1⟩
           have r1 : RD w1 w.heap.size ⟨#[]⟩ false := (by rw [hw1]; exact RD.new w)
           have b1 : Below w.heap.size w w1 := (by rw [hw1]; exact (Below.refl _ _).alloc (Nat.le_refl _) _)
           have lt1 := r1.lt
           clear hw1)
        | (go_at_call 11; refine (hpq _ _ q7).mono ?_; rintro e w8 ⟨rfl, q8, g8⟩
           have z8 := g8.size
           have b8 := b7.trans (below_gb (by omega) b7.size g8)
           have R8 := R7.kept g8 (by intro e; have := Option.some.inj e; omega)
           have o8 := own_kept o7 g8 (by omega)
           clear q7 R7 o7)
        | (go_at_call 11; refine (hp2 _ _ r4).mono ?_; rintro e w5 ⟨rfl, r5, g5⟩
           have z5 := g5.size
           have b5 := b4.trans (below_gb (Nat.le_refl _) b4.size g5)
           have q5 := q4.kept g5 (by intro e; have := Option.some.inj e; omega)
           have o5 := own_kept o4 g5 (by omega)
           clear r4 q4 o4)
        | (go_at_call 11; refine (hp1 _ _ r2).mono ?_; rintro e w3 ⟨rfl, r3, g3⟩
           have z3 := g3.size
           have b3 := b2.trans (below_gb (Nat.le_refl _) b2.size g3)
           have q3 := q2.kept g3 (by intro e; have := Option.some.inj e; omega)
           clear r2 q2)
        | (go_at_call 18; refine (hallq _ (hT.below b8) _ (by omega) q8).mono ?_; rintro e w9 ⟨v9, rfl, o9, q9, g9⟩
           have z9 := g9.size
           have b9 := b8.trans (below_gb (by omega) b8.size g9)
           have R9 := R8.kept g9 (by intro e; have := Option.some.inj e; omega)
           have o89 := own_kept o8 g9 (by omega)
           have hsame := same_any w9 _ _ _ _ (StrsR.of_own o89) (StrsR.of_own o9) (by omega) (by omega)
           rw [HEQ.out] at hsame
           simp only [List.length_append] at hsame
           have sh7 := o89
           obtain ⟨p9, c9, rfl⟩ := row_shape o9
           clear q8 R8 o8)
        | (go_at_call 18; refine (hall2 _ (hT.below b5) _ hlt r5).mono ?_; rintro e w6 ⟨v6, rfl, o6, r6, g6⟩
           have z6 := g6.size
           have b6 := b5.trans (below_gb (Nat.le_refl _) b5.size g6)
           have q6 := q5.kept g6 (by intro e; have := Option.some.inj e; omega)
           have o56 := own_kept o5 g6 (by omega)
           obtain ⟨p6, c6, rfl⟩ := row_shape o6
           clear r5 q5 o5)
        | (go_at_call 18; refine (hall1 _ (hT.below b3) _ hlt r3).mono ?_; rintro e w4 ⟨v4, rfl, o4, r4, g4⟩
           have z4 := g4.size
           have b4 := b3.trans (below_gb (Nat.le_refl _) b3.size g4)
           have q4 := q3.kept g4 (by intro e; have := Option.some.inj e; omega)
           obtain ⟨p4, c4, rfl⟩ := row_shape o4
           clear r3 q3)
        | (at_builtin; refine wp_app (l1 := bs1) (l2 := bs2) rfl (.tmp 48) (.tmp 49) rfl rfl o56 rfl o6 (by (try simp only [List.length_nil]); omega) (by omega) ?_; intro v7 w7 o7 g7
           have hv4 : ∀ k, Value.ownBlock (.slice p4 bs1.length c4) = some k → w3.heap.size ≤ k := fun k hk => (o56.lt k hk).1
           have z7 := g7.size
           have b7 := b6.trans ((Below.refl _ _).grown g7 b6.size (fun k hk => by have := hv4 k hk; omega))
           have R7 := r6.kept g7 (fun e => by have := hv4 _ e.symm; omega)
           have q7 := q6.kept g7 (fun e => by have := hv4 _ e.symm; omega)
           obtain ⟨p7, c7, rfl⟩ := row_shape o7
           clear r6 q6 o56 g7)
        | (go_at_call 19; refine hsame.mono ?_; rintro e wS ⟨rfl, hwS⟩
           have RS := R9.below hwS
           have qS := q9.below hwS
           have bS := b9.trans (hwS.mono b9.size)
           have kr := broken_any _ _ _ _ RS
           have kq := broken_any _ _ _ _ qS
           rw [HBR.out] at kr
           rw [HBQ.out] at kq)
        | (go_at_call 16; refine kr.mono ?_; rintro e w4 ⟨rfl, hw⟩; subst hw)
        | (go_at_call 16; refine kq.mono ?_; rintro e w4 ⟨rfl, hw⟩; subst hw)
        | (go_at_call 17; refine (awake_any _ (hT.below bS)).mono ?_; rintro e wZ ⟨rfl, bZ⟩))
      go_ret
      exact ⟨rfl, bS.trans (bZ.mono bS.size)⟩
  · have hp2 := fun w b (r : RD w b H1 true) => push_broken w b H1 (s.extract n s.size) r
    have hall2 := fun w b (r : RD w b H1 true) => all_broken w b H1 r
    have hd1 : decide (e1 ≠ 0) = true := decide_eq_true he
    rw [hd1] at hall1
    have hdd := d
    rw [← ext_split s n] at hdd
    obtain ⟨heq, hee⟩ := parts_bad he d1 hdd
    have hbr : true = br := by rw [← hbq, ← hee, hd1]
    have HEQ : Hid (decide (bs1 ++ [] = bs) = true) := Lib.hid (by rw [List.append_nil]; exact decide_eq_true heq)
    have HBR : Hid (true = br) := Lib.hid hbr
    have ebr : (br == br) = true := by cases br <;> rfl
    have hl12 : (bs1 ++ ([] : List (List UInt8))).length ≤ 6000 := by rw [List.append_nil]; omega
    clear heq hee hdd d d1 hbq hH1 hH1l f1 z1 fq hd1 he hbr
    by_cases c1 : at0 < 0
    · have hnv : n = s.size / 2 := by rw [hn, if_pos (.inl c1)]
      clear hn
      subst hnv
      have g1 : (s.size : Int) / 2 ≤ (s.size : Int) := by omega
      have g2 : 0 ≤ (s.size : Int) / 2 := by omega
      go_enter Tryd.func4, Tryd.ntmps4
      go_wp2_with (first
        | (go_at_call 10; refine hcut.mono ?_; rintro e wC ⟨rfl, hw⟩; subst hw)
        | (go_at_call 9; refine (new_any _).mono ?_; rintro e w2 ⟨rfl, hw2⟩
           have q2 : RD w2 w1.heap.size ⟨#[]⟩ false := (by rw [hw2]; exact RD.new w1)
           have b12 : Below w1.heap.size w1 w2 := (by rw [hw2]; exact (Below.refl _ _).alloc (Nat.le_refl _) _)
           have r2 := r1.below b12
           have b2 := b1.trans (b12.mono b1.size)
           have lt2 := q2.lt
           clear hw2 r1)
        | (go_at_call 9; refine (new_any _).mono ?_; rintro e w1 ⟨rfl, hw1⟩
           have r1 : RD w1 w.heap.size ⟨#[]⟩ false := (by rw [hw1]; exact RD.new w)
           have b1 : Below w.heap.size w w1 := (by rw [hw1]; exact (Below.refl _ _).alloc (Nat.le_refl _) _)
           have lt1 := r1.lt
           clear hw1)
        | (go_at_call 11; refine (hpq _ _ q7).mono ?_; rintro e w8 ⟨rfl, q8, g8⟩
           have z8 := g8.size
           have b8 := b7.trans (below_gb (by omega) b7.size g8)
           have R8 := R7.kept g8 (by intro e; have := Option.some.inj e; omega)
           have o8 := own_kept o7 g8 (by omega)
           clear q7 R7 o7)
        | (go_at_call 11; refine (hp2 _ _ r4).mono ?_; rintro e w5 ⟨rfl, hw5⟩; subst hw5
           have r5 := r4
           have b5 := b4
           have q5 := q4
           have o5 := o4
           have z5 := Nat.le_refl w4.heap.size
           clear r4 q4 o4)
        | (go_at_call 11; refine (hp1 _ _ r2).mono ?_; rintro e w3 ⟨rfl, r3, g3⟩
           have z3 := g3.size
           have b3 := b2.trans (below_gb (Nat.le_refl _) b2.size g3)
           have q3 := q2.kept g3 (by intro e; have := Option.some.inj e; omega)
           clear r2 q2)
        | (go_at_call 18; refine (hallq _ (hT.below b8) _ (by omega) q8).mono ?_; rintro e w9 ⟨v9, rfl, o9, q9, g9⟩
           have z9 := g9.size
           have b9 := b8.trans (below_gb (by omega) b8.size g9)
           have R9 := R8.kept g9 (by intro e; have := Option.some.inj e; omega)
           have o89 := own_kept o8 g9 (by omega)
           have hsame := same_any w9 _ _ _ _ (StrsR.of_own o89) (StrsR.of_own o9) (by omega) (by omega)
           rw [HEQ.out] at hsame
           simp only [List.length_append, List.length_nil, Nat.add_zero] at hsame
           have sh7 := o89
           obtain ⟨p9, c9, rfl⟩ := row_shape o9
           clear q8 R8 o8)
        | (go_at_call 18; refine (hall2 _ _ r5).mono ?_; rintro e w6 ⟨rfl, g6⟩
           have z6 := g6.size
           have b6 := b5.trans (g6.mono b5.size)
           have q6 := q5.below g6
           have r6 := r5.below g6
           have o56 := own_below o5 g6
           clear r5 q5 o5)
        | (go_at_call 18; refine (hall1 _ (hT.below b3) _ hlt r3).mono ?_; rintro e w4 ⟨v4, rfl, o4, r4, g4⟩
           have z4 := g4.size
           have b4 := b3.trans (below_gb (Nat.le_refl _) b3.size g4)
           have q4 := q3.kept g4 (by intro e; have := Option.some.inj e; omega)
           obtain ⟨p4, c4, rfl⟩ := row_shape o4
           clear r3 q3)
        | (at_builtin; refine wp_app (l1 := bs1) (l2 := []) rfl (.tmp 48) (.tmp 49) rfl rfl o56 rfl (World.ownsRow_nil w6 0 9 1) (by (try simp only [List.length_nil]); omega) (by omega) ?_; intro v7 w7 o7 g7
           have hv4 : ∀ k, Value.ownBlock (.slice p4 bs1.length c4) = some k → w3.heap.size ≤ k := fun k hk => (o56.lt k hk).1
           have z7 := g7.size
           have b7 := b6.trans ((Below.refl _ _).grown g7 b6.size (fun k hk => by have := hv4 k hk; omega))
           have R7 := r6.kept g7 (fun e => by have := hv4 _ e.symm; omega)
           have q7 := q6.kept g7 (fun e => by have := hv4 _ e.symm; omega)
           obtain ⟨p7, c7, rfl⟩ := row_shape o7
           clear r6 q6 o56 g7)
        | (go_at_call 19; refine hsame.mono ?_; rintro e wS ⟨rfl, hwS⟩
           have RS := R9.below hwS
           have qS := q9.below hwS
           have bS := b9.trans (hwS.mono b9.size)
           have kr := broken_any _ _ _ _ RS
           have kq := broken_any _ _ _ _ qS
           rw [HBR.out] at kr
           rw [HBQ.out] at kq)
        | (go_at_call 16; refine kr.mono ?_; rintro e w4 ⟨rfl, hw⟩; subst hw)
        | (go_at_call 16; refine kq.mono ?_; rintro e w4 ⟨rfl, hw⟩; subst hw)
        | (go_at_call 17; refine (awake_any _ (hT.below bS)).mono ?_; rintro e wZ ⟨rfl, bZ⟩))
      go_ret
      exact ⟨rfl, bS.trans (bZ.mono bS.size)⟩
    by_cases c2 : at0 > (s.size : Int)
    · have hnv : n = s.size / 2 := by rw [hn, if_pos (.inr c2)]
      clear hn
      subst hnv
      have g1 : (s.size : Int) / 2 ≤ (s.size : Int) := by omega
      have g2 : 0 ≤ (s.size : Int) / 2 := by omega
      go_enter Tryd.func4, Tryd.ntmps4
      go_wp2_with (first
        | (go_at_call 10; refine hcut.mono ?_; rintro e wC ⟨rfl, hw⟩; subst hw)
        | (go_at_call 9; refine (new_any _).mono ?_; rintro e w2 ⟨rfl, hw2⟩
           have q2 : RD w2 w1.heap.size ⟨#[]⟩ false := (by rw [hw2]; exact RD.new w1)
           have b12 : Below w1.heap.size w1 w2 := (by rw [hw2]; exact (Below.refl _ _).alloc (Nat.le_refl _) _)
           have r2 := r1.below b12
           have b2 := b1.trans (b12.mono b1.size)
           have lt2 := q2.lt
           clear hw2 r1)
        | (go_at_call 9; refine (new_any _).mono ?_; rintro e w1 ⟨rfl, hw1⟩
           have r1 : RD w1 w.heap.size ⟨#[]⟩ false := (by rw [hw1]; exact RD.new w)
           have b1 : Below w.heap.size w w1 := (by rw [hw1]; exact (Below.refl _ _).alloc (Nat.le_refl _) _)
           have lt1 := r1.lt
           clear hw1)
        | (go_at_call 11; refine (hpq _ _ q7).mono ?_; rintro e w8 ⟨rfl, q8, g8⟩
           have z8 := g8.size
           have b8 := b7.trans (below_gb (by omega) b7.size g8)
           have R8 := R7.kept g8 (by intro e; have := Option.some.inj e; omega)
           have o8 := own_kept o7 g8 (by omega)
           clear q7 R7 o7)
        | (go_at_call 11; refine (hp2 _ _ r4).mono ?_; rintro e w5 ⟨rfl, hw5⟩; subst hw5
           have r5 := r4
           have b5 := b4
           have q5 := q4
           have o5 := o4
           have z5 := Nat.le_refl w4.heap.size
           clear r4 q4 o4)
        | (go_at_call 11; refine (hp1 _ _ r2).mono ?_; rintro e w3 ⟨rfl, r3, g3⟩
           have z3 := g3.size
           have b3 := b2.trans (below_gb (Nat.le_refl _) b2.size g3)
           have q3 := q2.kept g3 (by intro e; have := Option.some.inj e; omega)
           clear r2 q2)
        | (go_at_call 18; refine (hallq _ (hT.below b8) _ (by omega) q8).mono ?_; rintro e w9 ⟨v9, rfl, o9, q9, g9⟩
           have z9 := g9.size
           have b9 := b8.trans (below_gb (by omega) b8.size g9)
           have R9 := R8.kept g9 (by intro e; have := Option.some.inj e; omega)
           have o89 := own_kept o8 g9 (by omega)
           have hsame := same_any w9 _ _ _ _ (StrsR.of_own o89) (StrsR.of_own o9) (by omega) (by omega)
           rw [HEQ.out] at hsame
           simp only [List.length_append, List.length_nil, Nat.add_zero] at hsame
           have sh7 := o89
           obtain ⟨p9, c9, rfl⟩ := row_shape o9
           clear q8 R8 o8)
        | (go_at_call 18; refine (hall2 _ _ r5).mono ?_; rintro e w6 ⟨rfl, g6⟩
           have z6 := g6.size
           have b6 := b5.trans (g6.mono b5.size)
           have q6 := q5.below g6
           have r6 := r5.below g6
           have o56 := own_below o5 g6
           clear r5 q5 o5)
        | (go_at_call 18; refine (hall1 _ (hT.below b3) _ hlt r3).mono ?_; rintro e w4 ⟨v4, rfl, o4, r4, g4⟩
           have z4 := g4.size
           have b4 := b3.trans (below_gb (Nat.le_refl _) b3.size g4)
           have q4 := q3.kept g4 (by intro e; have := Option.some.inj e; omega)
           obtain ⟨p4, c4, rfl⟩ := row_shape o4
           clear r3 q3)
        | (at_builtin; refine wp_app (l1 := bs1) (l2 := []) rfl (.tmp 48) (.tmp 49) rfl rfl o56 rfl (World.ownsRow_nil w6 0 9 1) (by (try simp only [List.length_nil]); omega) (by omega) ?_; intro v7 w7 o7 g7
           have hv4 : ∀ k, Value.ownBlock (.slice p4 bs1.length c4) = some k → w3.heap.size ≤ k := fun k hk => (o56.lt k hk).1
           have z7 := g7.size
           have b7 := b6.trans ((Below.refl _ _).grown g7 b6.size (fun k hk => by have := hv4 k hk; omega))
           have R7 := r6.kept g7 (fun e => by have := hv4 _ e.symm; omega)
           have q7 := q6.kept g7 (fun e => by have := hv4 _ e.symm; omega)
           obtain ⟨p7, c7, rfl⟩ := row_shape o7
           clear r6 q6 o56 g7)
        | (go_at_call 19; refine hsame.mono ?_; rintro e wS ⟨rfl, hwS⟩
           have RS := R9.below hwS
           have qS := q9.below hwS
           have bS := b9.trans (hwS.mono b9.size)
           have kr := broken_any _ _ _ _ RS
           have kq := broken_any _ _ _ _ qS
           rw [HBR.out] at kr
           rw [HBQ.out] at kq)
        | (go_at_call 16; refine kr.mono ?_; rintro e w4 ⟨rfl, hw⟩; subst hw)
        | (go_at_call 16; refine kq.mono ?_; rintro e w4 ⟨rfl, hw⟩; subst hw)
        | (go_at_call 17; refine (awake_any _ (hT.below bS)).mono ?_; rintro e wZ ⟨rfl, bZ⟩))
      go_ret
      exact ⟨rfl, bS.trans (bZ.mono bS.size)⟩
    · have hnv : at0 = (n : Int) := by rw [hn, if_neg (by omega)]; omega
      subst hnv
      clear hn
      go_enter Tryd.func4, Tryd.ntmps4
      go_wp2_with (first
        | (go_at_call 10; refine hcut.mono ?_; rintro e wC ⟨rfl, hw⟩; subst hw)
        | (go_at_call 9; refine (new_any _).mono ?_; rintro e w2 ⟨rfl, hw2⟩
           have q2 : RD w2 w1.heap.size ⟨#[]⟩ false := (by rw [hw2]; exact RD.new w1)
           have b12 : Below w1.heap.size w1 w2 := (by rw [hw2]; exact (Below.refl _ _).alloc (Nat.le_refl _) _)
           have r2 := r1.below b12
           have b2 := b1.trans (b12.mono b1.size)
           have lt2 := q2.lt
           clear hw2 r1)
        | (go_at_call 9; refine (new_any _).mono ?_; rintro e w1 ⟨rfl, hw1⟩
           have r1 : RD w1 w.heap.size ⟨#[]⟩ false := (by rw [hw1]; exact RD.new w)
           have b1 : Below w.heap.size w w1 := (by rw [hw1]; exact (Below.refl _ _).alloc (Nat.le_refl _) _)
           have lt1 := r1.lt
           clear hw1)
        | (go_at_call 11; refine (hpq _ _ q7).mono ?_; rintro e w8 ⟨rfl, q8, g8⟩
           have z8 := g8.size
           have b8 := b7.trans (below_gb (by omega) b7.size g8)
           have R8 := R7.kept g8 (by intro e; have := Option.some.inj e; omega)
           have o8 := own_kept o7 g8 (by omega)
           clear q7 R7 o7)
        | (go_at_call 11; refine (hp2 _ _ r4).mono ?_; rintro e w5 ⟨rfl, hw5⟩; subst hw5
           have r5 := r4
           have b5 := b4
           have q5 := q4
           have o5 := o4
           have z5 := Nat.le_refl w4.heap.size
           clear r4 q4 o4)
        | (go_at_call 11; refine (hp1 _ _ r2).mono ?_; rintro e w3 ⟨rfl, r3, g3⟩
           have z3 := g3.size
           have b3 := b2.trans (below_gb (Nat.le_refl _) b2.size g3)
           have q3 := q2.kept g3 (by intro e; have := Option.some.inj e; omega)
           clear r2 q2)
        | (go_at_call 18; refine (hallq _ (hT.below b8) _ (by omega) q8).mono ?_; rintro e w9 ⟨v9, rfl, o9, q9, g9⟩
           have z9 := g9.size
           have b9 := b8.trans (below_gb (by omega) b8.size g9)
           have R9 := R8.kept g9 (by intro e; have := Option.some.inj e; omega)
           have o89 := own_kept o8 g9 (by omega)
           have hsame := same_any w9 _ _ _ _ (StrsR.of_own o89) (StrsR.of_own o9) (by omega) (by omega)
           rw [HEQ.out] at hsame
           simp only [List.length_append, List.length_nil, Nat.add_zero] at hsame
           have sh7 := o89
           obtain ⟨p9, c9, rfl⟩ := row_shape o9
           clear q8 R8 o8)
        | (go_at_call 18; refine (hall2 _ _ r5).mono ?_; rintro e w6 ⟨rfl, g6⟩
           have z6 := g6.size
           have b6 := b5.trans (g6.mono b5.size)
           have q6 := q5.below g6
           have r6 := r5.below g6
           have o56 := own_below o5 g6
           clear r5 q5 o5)
        | (go_at_call 18; refine (hall1 _ (hT.below b3) _ hlt r3).mono ?_; rintro e w4 ⟨v4, rfl, o4, r4, g4⟩
           have z4 := g4.size
           have b4 := b3.trans (below_gb (Nat.le_refl _) b3.size g4)
           have q4 := q3.kept g4 (by intro e; have := Option.some.inj e; omega)
           obtain ⟨p4, c4, rfl⟩ := row_shape o4
           clear r3 q3)
        | (at_builtin; refine wp_app (l1 := bs1) (l2 := []) rfl (.tmp 48) (.tmp 49) rfl rfl o56 rfl (World.ownsRow_nil w6 0 9 1) (by (try simp only [List.length_nil]); omega) (by omega) ?_; intro v7 w7 o7 g7
           have hv4 : ∀ k, Value.ownBlock (.slice p4 bs1.length c4) = some k → w3.heap.size ≤ k := fun k hk => (o56.lt k hk).1
           have z7 := g7.size
           have b7 := b6.trans ((Below.refl _ _).grown g7 b6.size (fun k hk => by have := hv4 k hk; omega))
           have R7 := r6.kept g7 (fun e => by have := hv4 _ e.symm; omega)
           have q7 := q6.kept g7 (fun e => by have := hv4 _ e.symm; omega)
           obtain ⟨p7, c7, rfl⟩ := row_shape o7
           clear r6 q6 o56 g7)
        | (go_at_call 19; refine hsame.mono ?_; rintro e wS ⟨rfl, hwS⟩
           have RS := R9.below hwS
           have qS := q9.below hwS
           have bS := b9.trans (hwS.mono b9.size)
           have kr := broken_any _ _ _ _ RS
           have kq := broken_any _ _ _ _ qS
           rw [HBR.out] at kr
           rw [HBQ.out] at kq)
        | (go_at_call 16; refine kr.mono ?_; rintro e w4 ⟨rfl, hw⟩; subst hw)
        | (go_at_call 16; refine kq.mono ?_; rintro e w4 ⟨rfl, hw⟩; subst hw)
        | (go_at_call 17; refine (awake_any _ (hT.below bS)).mono ?_; rintro e wZ ⟨rfl, bZ⟩))
      go_ret
      exact ⟨rfl, bS.trans (bZ.mono bS.size)⟩
end Go.Proofs.Fr

