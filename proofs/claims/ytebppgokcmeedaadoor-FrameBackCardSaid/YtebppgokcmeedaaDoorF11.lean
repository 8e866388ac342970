/- FrameBack's walk. -/
import Derived.Test.YtebppgokcmeedaaDoorF10
namespace Go.Proofs.Fr
open Go.RowKit Go.Maps Go.Proofs Go.Lib

theorem ext_take (s : ByteArray) (n : Nat) : s.extract 0 n = ⟨(s.data.toList.take n).toArray⟩ := by
  apply ByteArray.ext
  apply Array.toList_inj.1
  simp [ByteArray.data_extract]
theorem nil_empty (u : ByteArray) : u.toList.isEmpty = decide (u.data.toList = []) := by
  rw [ByteArray.toList_eq]
  cases u.data.toList <;> simp

set_option maxRecDepth 100000 in
set_option maxHeartbeats 4000000 in
theorem back_walk (w : World) (hT : MaxV w) (hTen : TenV w) {pi : Option Addr} {ni ci : Nat} {pd : Option Addr} {nd cd : Nat} (_hni : ni ≤ maxLen) (_hnd : nd ≤ maxLen)
    (hI : ∀ i, i < ni → ∃ (a : Addr) (s : ByteArray), pi = some a ∧ w.cell? (a.add i) = some (.string s) ∧ s.size ≤ maxLen ∧ a.block < w.heap.size)
    (hD : ∀ i, i < nd → ∃ (a : Addr) (z : Int), pd = some a ∧ w.cell? (a.add i) = some (.int .u8 z) ∧ 0 ≤ z ∧ z ≤ 255 ∧ a.block < w.heap.size) :
    Calls Tryd.prog 7 #[.slice pi ni ci, .slice pd nd cd] w fun e w' => e = .returned (.bool true) ∧ Below w.heap.size w w' := by
  unfold maxLen at _hni _hnd hI
  obtain ⟨i9_, hi9, hz0, hz1, hz2⟩ := info_parts info9
  have HI := Lib.hid hI
  have HD := Lib.hid hD
  clear hI hD
  have hlt := hT.lt
  go_enter Tryd.func7, Tryd.ntmps7
  go_wp2
  go_loopw [5, 6, 7] (fun v s i wr => ∃ (k : Nat) (l : List (List UInt8)), i = .int .i64 k ∧ l.length = k ∧ k ≤ ni ∧ k ≤ 20 ∧ (∀ b ∈ l, b.length ≤ 3000) ∧ wr.ownsRow w.heap.size 9 1 v k (strCells l) ∧ (∃ F : ByteArray, s = .string F ∧ F.data.toList = flat l) ∧ Below w.heap.size w wr) (fun _ _ i _ => 20 - (RowKit.intOf i).toNat)
  case atStart => exact ⟨0, [], rfl, rfl, Nat.zero_le _, Nat.zero_le _, by simp, World.ownsRow_nil _ _ _ _, ⟨⟨#[]⟩, rfl, rfl⟩, Below.refl _ _⟩
  case round =>
    obtain ⟨k, l, rfl, hl, hk1, hk2, hbs, hown, ⟨F, rfl, hF⟩, hB⟩ := hrel
    by_cases hkk : (k : Int) < (ni : Int) ∧ (k : Int) < 20
    · obtain ⟨hkn, hk20⟩ := hkk
      · obtain ⟨a, s, rfl, hc, hss, hab⟩ := HI.out k (by omega)
        have hc1 := (hB.cell (p := a.add k) (by rw [add_block]; exact hab)).trans hc
        have hc0 := hc
        have hcut := fun w => cut_any s w hss
        obtain ⟨x, hX⟩ : ∃ x : List UInt8, s.extract 0 (min s.size 3000) = ⟨x.toArray⟩ := ⟨_, ext_take s _⟩
        have hXs : x.length ≤ 3000 := by
          have : (s.extract 0 (min s.size 3000)).size ≤ 3000 := by rw [ByteArray.size_extract]; omega
          rw [hX, size_mk'] at this
          exact this
        rw [hX] at hcut
        have hput : ∀ w, TenV w → Calls Tryd.prog 20 #[.string ⟨x.toArray⟩] w fun e w' => e = .returned (.string ⟨(putL x).toArray⟩) ∧ Below w.heap.size w w' := fun w hw => put_any ⟨x.toArray⟩ w (by rw [size_mk']; omega) hw
        obtain ⟨P, hP⟩ : ∃ P : ByteArray, (⟨(putL x).toArray⟩ : ByteArray) = P := ⟨_, rfl⟩
        rw [hP] at hput
        have hfl := flat_len (l ++ [x]) (fun b hb => by
          rcases List.mem_append.1 hb with h | h
          · exact hbs b h
          · rw [List.mem_singleton] at h; rw [h]; exact hXs)
        rw [List.length_append, List.length_singleton] at hfl
        have hadd : (F ++ P).data.toList = flat (l ++ [x]) := by rw [ByteArray.data_append, Array.toList_append, hF, ← hP, flat_snoc]
        have hFP : F.size + P.size ≤ 70000 := by
          rw [← ByteArray.size_append, Lib.size_eq, hadd]
          omega
        have hFP2 : (F.size : Int) + (P.size : Int) ≤ 281474976710656 := by omega
        have HA := Lib.hid hadd
        have hz := hB.size
        clear hX hss hc hP hF hadd hfl
        go_wp2_with (first
          | (go_at_call 10; refine (hcut _).mono ?_; rintro e w1 ⟨rfl, hw⟩; subst hw)
          | (at_builtin; refine wpList_append_own _ rfl (.tmp 24) (.tmp 30) 41 rfl w.heap.size 9 i9_ _ 1 16 Tryd.underlying41 hi9 hz0 hz1 hz2 rfl (by decide) _ _ _ rfl (hown.alloc _) ⟨wr.heap.size, 0, none⟩ 1 1 [.string ⟨x.toArray⟩] rfl rfl (cells_at_new wr [.string ⟨x.toArray⟩] 9 _ rfl) (str_ones _) (by unfold maxLen; omega) (by omega) (by simp; omega) ?_; intro v' w3 hown3 hg3 hnil3
             have b3 : Below w.heap.size w w3 := (hB.trans ((Below.refl wr.heap.size wr).alloc (Nat.le_refl _) _ |>.mono hz)).grown hg3 (by simp; omega) (fun k hk => ((hown.alloc (.cells #[.string ⟨x.toArray⟩] 9)).lt k hk).1)
             have hc3 := (b3.cell (p := a.add k) (by rw [add_block]; exact hab)).trans hc0
             have hT3 := hTen.below b3
             clear hg3 hnil3)
          | (go_at_call 20; refine (hput _ hT3).mono ?_; rintro e w4 ⟨rfl, hb4⟩
             have b4 := b3.trans (hb4.mono b3.size)
             have hown4 := own_below hown3 hb4))
        go_roundw
        case rel => exact ⟨k + 1, l ++ [x], by go_num, by rw [List.length_append, hl]; rfl, by omega, by omega, (fun b hb => by
          rcases List.mem_append.1 hb with h | h
          · exact hbs b h
          · rw [List.mem_singleton] at h; rw [h]; exact hXs), by rw [strCells_snoc]; exact hown4, ⟨_, rfl, HA.out⟩, b4⟩
        case measure => simp [RowKit.intOf]; omega
    · have hend : (¬ (k : Int) < (ni : Int)) ∨ ((k : Int) < (ni : Int) ∧ ¬ (k : Int) < 20) := by omega
      have hfl := flat_len l hbs
      have hFs : F.size ≤ 70000 := by rw [Lib.size_eq, hF]; omega
      have HF := Lib.hid hF
      have hll : l.length ≤ 20 := by omega
      subst hl
      obtain ⟨V, rfl⟩ : ∃ V, V = wr := ⟨_, rfl⟩
      have HB0 := Lib.hid hbs
      have hzV := hB.size
      clear hF hkk hbs hfl HI
      obtain ⟨p0, c0, rfl⟩ := row_shape hown
      rcases hend with hkn | ⟨hkn, hk20⟩
      all_goals
        go_wp2_with (first
          | (go_at_call 9; refine (new_any _).mono ?_; rintro e W2 ⟨rfl, hw1⟩
             have r0 : RD W2 V.heap.size ⟨#[]⟩ false := (by rw [hw1]; exact RD.new V)
             have b0 : Below V.heap.size V W2 := (by rw [hw1]; exact (Below.refl _ _).alloc (Nat.le_refl _) _)
             clear hw1))
        go_loopw [6, 9, 10] (fun s gv t wx => ∃ (turn : Nat) (bs rs : List (List UInt8)) (H U : ByteArray), t = .int .i64 turn ∧ turn ≤ 4000 ∧ s = .string U ∧ bs ++ rs = l ∧ H.data.toList ++ U.data.toList = flat rs ∧ wx.ownsRow (V.heap.size + 1) 9 1 gv bs.length (strCells bs) ∧ RD wx V.heap.size H false ∧ (nextV H.data.toList).ok = false ∧ Below V.heap.size V wx) (fun _ _ t _ => 4000 - (RowKit.intOf t).toNat)
        case atStart => exact ⟨0, [], l, ⟨#[]⟩, F, rfl, Nat.zero_le _, rfl, rfl, HF.out, World.ownsRow_nil _ _ _ _, r0, (by decide +kernel), b0⟩
        case round =>
          obtain ⟨turn, bs, rs, H, U, rfl, ht, rfl, hbr, hHU, hog, hr, hok, hB2⟩ := hrel
          have hrs : ∀ b ∈ rs, b.length ≤ 262144 := fun b hb => by
            have := HB0.out b (by rw [← hbr]; exact List.mem_append_right _ hb)
            omega
          have hzs : H.size + U.size ≤ 70000 := by
            have h1 := flat_len rs (fun b hb => HB0.out b (by rw [← hbr]; exact List.mem_append_right _ hb))
            have h2 := congrArg List.length hHU
            rw [List.length_append, ← Lib.size_eq, ← Lib.size_eq] at h2
            have h3 := congrArg List.length hbr
            rw [List.length_append] at h3
            omega
          have hrl : rs.length ≤ 20 := by
            have h3 := congrArg List.length hbr
            rw [List.length_append] at h3
            omega
          have hbl : bs.length ≤ 20 := by
            have h3 := congrArg List.length hbr
            rw [List.length_append] at h3
            omega
          have hzw := hr.lt
          by_cases hU : U.data.toList = []
          · have u0 : U.toList.isEmpty = true := by rw [nil_empty, hU]; rfl
            obtain ⟨hr0, hH0⟩ := flat_end hrs (by rw [← hHU, hU, List.append_nil]) hok
            have hbl2 : bs = l := by rw [← hbr, hr0, List.append_nil]
            have hHe : H = ⟨#[]⟩ := ByteArray.ext (Array.toList_inj.1 hH0)
            subst hHe
            have hsame := same_any _ _ _ _ _ (StrsR.of_own hog) ((StrsR.of_own hown).below hB2) (by omega) (by omega)
            rw [decide_eq_true hbl2] at hsame
            obtain ⟨pg, cg, rfl⟩ := row_shape hog
            clear hbr hHU hrs hr0 hH0 hbl2 hog hok hU
            go_wp2_with (first
              | (go_at_call 19; refine hsame.mono ?_; rintro e w3 ⟨rfl, hb3⟩
                 have r3 := hr.below hb3
                 have b3 := hB2.trans (hb3.mono hB2.size))
              | (go_at_call 15; refine (held_any _ _ _ _ r3).mono ?_; rintro e w4 ⟨rfl, hw⟩; subst hw)
              | (go_at_call 17; refine (awake_any _ (hT.below (hB.trans (b3.mono hB.size)))).mono ?_; rintro e w6 ⟨rfl, b6⟩))
            go_ret
            exact ⟨rfl, (hB.trans (b3.mono hB.size)).trans (b6.mono (by have := b3.size; omega))⟩
          have u0 : U.toList.isEmpty = false := by rw [nil_empty]; exact decide_eq_false hU
          obtain ⟨pg, cg, rfl⟩ := row_shape hog
          clear hU
          by_cases h4 : (turn : Int) < 4000
          · by_cases hts : (turn : Int) < (nd : Int)
            · obtain ⟨a, z, rfl, hc, hz0, hz255, hab⟩ := HD.out turn (by omega)
              obtain ⟨zn, rfl⟩ : ∃ zn : Nat, z = zn := ⟨z.toNat, by omega⟩
              have hc1 := (hB2.cell (p := a.add turn) (by rw [add_block]; omega)).trans ((hB.cell (p := a.add turn) (by rw [add_block]; exact hab)).trans hc)
              obtain ⟨n, hmin, hn⟩ : ∃ n : Nat, min (U.size : Int) (zn : Int) = (n : Int) ∧ n ≤ U.size := ⟨min U.size zn, by omega, by omega⟩
              have hn0 : (n : Int) ≤ (U.size : Int) := by omega
              obtain ⟨T, D, h', hTD, hdr, hfl2⟩ : ∃ T D h', T ++ D = rs ∧ Dr (H ++ U.extract 0 n).data.toList T 0 h' ∧ h' ++ (U.extract n U.size).data.toList = flat D := by
                obtain ⟨m, h', _, g2, g3⟩ := dr_flat rs (H ++ U.extract 0 n).data.toList (U.extract n U.size).data.toList hrs (by rw [app_list, List.append_assoc, ext_split, hHU])
                exact ⟨_, _, h', List.take_append_drop m rs, g2, g3⟩
              have hx0 : (U.extract 0 n).size ≤ n := by rw [ByteArray.size_extract]; omega
              have hpush := fun w r => push_any w V.heap.size H (U.extract 0 n) r (by omega)
              have hTl : T.length ≤ 20 := by rw [← hTD, List.length_append] at hrl; omega
              have hall := fun w hw b hb r => all_any w hw b hb (H ++ U.extract 0 n) (by rw [ByteArray.size_append]; omega) r hdr (by omega)
              have hlast := hdr.last.1
              have hd0 : decide ((0 : Nat) ≠ 0) = false := rfl
              simp only [hd0] at hall
              have hbT : (bs ++ T) ++ D = l := by rw [List.append_assoc, hTD]; exact hbr
              have HL := Lib.hid hlast
              have HBT := Lib.hid hbT
              have HFL := Lib.hid hfl2
              have HTD := Lib.hid hTD
              clear hdr hlast hd0 hbT hfl2 hTD hHU hrs hbr hok
              go_wp2_with (first
                | (go_at_call 11; refine (hpush _ hr).mono ?_; rintro e w3 ⟨rfl, r3, g3⟩
                   have z3 := g3.size
                   have b3 := hB2.trans (below_gb (Nat.le_refl _) hB2.size g3)
                   have o3 := own_kept hog g3 (by omega))
                | (go_at_call 18; refine (hall _ ((hT.below (hB.trans (b3.mono hB.size)))) _ (by omega) r3).mono ?_; rintro e w4 ⟨v4, rfl, o4, r4, g4⟩
                   have z4 := g4.size
                   have b4 := b3.trans (below_gb (Nat.le_refl _) b3.size g4)
                   have o34 := own_kept o3 g4 (by omega)
                   obtain ⟨p4, c4, rfl⟩ := row_shape o4)
                | (at_builtin; refine wp_app (l1 := bs) (l2 := T) rfl (.tmp 78) (.tmp 79) rfl rfl o34 rfl o4 (by omega) (by omega) ?_; intro v5 w5 o5 g5
                   have hv4 : ∀ j, Value.ownBlock (.slice pg bs.length cg) = some j → V.heap.size + 1 ≤ j := fun j hj => (o34.lt j hj).1
                   have z5 := g5.size
                   have b5 := b4.trans ((Below.refl _ _).grown g5 b4.size (fun j hj => by have := hv4 j hj; omega))
                   have r5 := r4.kept g5 (fun e => by have := hv4 _ e.symm; omega)
                   obtain ⟨p5, c5, rfl⟩ := row_shape o5
                   clear r4 o34 o4 g5))
              go_roundw
              case rel => exact ⟨turn + 1, bs ++ T, D, ⟨h'.toArray⟩, U.extract n U.size, by go_num, by omega, rfl, HBT.out, HFL.out, (by have := o5; rw [List.length_append] at this ⊢; exact this), r5, HL.out, b5⟩
              case measure => simp [RowKit.intOf]; omega
            · obtain ⟨n, rfl⟩ : ∃ n : Nat, n = U.size := ⟨_, rfl⟩
              have hn : U.size ≤ U.size := Nat.le_refl _
              obtain ⟨T, D, h', hTD, hdr, hfl2⟩ : ∃ T D h', T ++ D = rs ∧ Dr (H ++ U).data.toList T 0 h' ∧ h' ++ (⟨#[]⟩ : ByteArray).data.toList = flat D := by
                obtain ⟨m, h', _, g2, g3⟩ := dr_flat rs (H ++ U).data.toList [] hrs (by rw [app_list, List.append_nil, hHU])
                exact ⟨_, _, h', List.take_append_drop m rs, g2, g3⟩
              have hpush := fun w r => push_any w V.heap.size H U r (by omega)
              have hTl : T.length ≤ 20 := by rw [← hTD, List.length_append] at hrl; omega
              have hall := fun w hw b hb r => all_any w hw b hb (H ++ U) (by rw [ByteArray.size_append]; omega) r hdr (by omega)
              have hlast := hdr.last.1
              have hd0 : decide ((0 : Nat) ≠ 0) = false := rfl
              simp only [hd0] at hall
              have hbT : (bs ++ T) ++ D = l := by rw [List.append_assoc, hTD]; exact hbr
              have HL := Lib.hid hlast
              have HBT := Lib.hid hbT
              have HFL := Lib.hid hfl2
              have HTD := Lib.hid hTD
              clear hdr hlast hd0 hbT hfl2 hTD hHU hrs hbr hok
              go_wp2_with (first
                | (go_at_call 11; refine (hpush _ hr).mono ?_; rintro e w3 ⟨rfl, r3, g3⟩
                   have z3 := g3.size
                   have b3 := hB2.trans (below_gb (Nat.le_refl _) hB2.size g3)
                   have o3 := own_kept hog g3 (by omega))
                | (go_at_call 18; refine (hall _ ((hT.below (hB.trans (b3.mono hB.size)))) _ (by omega) r3).mono ?_; rintro e w4 ⟨v4, rfl, o4, r4, g4⟩
                   have z4 := g4.size
                   have b4 := b3.trans (below_gb (Nat.le_refl _) b3.size g4)
                   have o34 := own_kept o3 g4 (by omega)
                   obtain ⟨p4, c4, rfl⟩ := row_shape o4)
                | (at_builtin; refine wp_app (l1 := bs) (l2 := T) rfl (.tmp 78) (.tmp 79) rfl rfl o34 rfl o4 (by omega) (by omega) ?_; intro v5 w5 o5 g5
                   have hv4 : ∀ j, Value.ownBlock (.slice pg bs.length cg) = some j → V.heap.size + 1 ≤ j := fun j hj => (o34.lt j hj).1
                   have z5 := g5.size
                   have b5 := b4.trans ((Below.refl _ _).grown g5 b4.size (fun j hj => by have := hv4 j hj; omega))
                   have r5 := r4.kept g5 (fun e => by have := hv4 _ e.symm; omega)
                   obtain ⟨p5, c5, rfl⟩ := row_shape o5
                   clear r4 o34 o4 g5))
              go_roundw
              case rel => exact ⟨turn + 1, bs ++ T, D, ⟨h'.toArray⟩, ⟨#[]⟩, by go_num, by omega, rfl, HBT.out, HFL.out, (by have := o5; rw [List.length_append] at this ⊢; exact this), r5, HL.out, b5⟩
              case measure => simp [RowKit.intOf]; omega
          · have hsz4 : turn = 4000 := by omega
            subst hsz4
            clear hbr hHU hrs hog hok
            go_wp2_with (first
              | (go_at_call 17; refine (awake_any _ (hT.below (hB.trans (hB2.mono hB.size)))).mono ?_; rintro e w6 ⟨rfl, b6⟩))
            go_ret
            exact ⟨rfl, (hB.trans (hB2.mono hB.size)).trans (b6.mono (by have := hB2.size; omega))⟩
end Go.Proofs.Fr
