/- The laws' helpers: cut, awake, all, same. -/
import Derived.Test.YtebppgokcmeedaaDoorF5
import Derived.Laws.OwnMore
namespace Go.Proofs.Fr
open Go.RowKit Go.Proofs Go.Lib

theorem MaxV.gb {w w' : World} (h : MaxV w) {b : Nat} (hb : 0 < b) (hg : w.grownBy w' (some b)) : MaxV w' := h.grown hg (by omega)
theorem below_gb {w w' : World} {b B : Nat} (hB : B ≤ b) (hz : B ≤ w.heap.size) (hg : w.grownBy w' (some b)) : Below B w w' := (Below.refl B w).grown hg hz (fun k hk => by cases hk; omega)
set_option maxRecDepth 100000 in
theorem cut_any (s : ByteArray) (w : World) (hs : s.size ≤ 9223372036854775807) : Calls Tryd.prog 10 #[.string s] w fun e w' => e = .returned (.string (s.extract 0 (min s.size 3000))) ∧ w = w' := by
  go_enter Tryd.func10, Tryd.ntmps10
  go_wp2
  go_ret
  refine ⟨?_, rfl⟩
  have e : (min (s.size : Int) 3000).toNat = min s.size 3000 := by omega
  rw [← e]
  rfl
def awakeB : ByteArray := ⟨#[67, 111, 110, 116, 101, 110, 116, 45, 76, 101, 110, 103, 116, 104, 58, 32, 50, 13, 10, 13, 10, 104, 105]⟩
theorem awake_next : nextV awakeB.data.toList = ⟨[104, 105], true, 0, []⟩ := by decide +kernel
theorem empty_add (B : ByteArray) : (⟨#[]⟩ : ByteArray) ++ B = B := by
  apply ByteArray.ext
  rw [ByteArray.data_append]
  simp
set_option maxRecDepth 100000 in
set_option maxHeartbeats 1000000 in
theorem awake_any (w : World) (hT : MaxV w) : Calls Tryd.prog 17 #[] w fun e w' => e = .returned (.bool true) ∧ Below w.heap.size w w' := by
  have hlt := hT.lt
  have hpu := fun w b r => push_any w b ⟨#[]⟩ awakeB r (by decide)
  have hnx := fun w hw b hb r => next_any w hw b hb awakeB (by decide) r
  rw [awake_next] at hnx
  have e1 : ∀ B : ByteArray, (⟨#[]⟩ : ByteArray) ++ B = B := empty_add
  simp only [e1] at hpu
  have hd : (decide ((0 : Nat) ≠ 0)) = false := rfl
  simp only [nxVal, hd] at hnx
  unfold awakeB at hpu hnx
  clear e1 hd
  go_enter Tryd.func17, Tryd.ntmps17
  go_wp2_with (first
    | (go_at_call 9; refine (new_any _).mono ?_; rintro e w1 ⟨rfl, hw1⟩
       have r1 : RD w1 w.heap.size ⟨#[]⟩ false := (by rw [hw1]; exact RD.new w)
       have b1 : Below w.heap.size w w1 := (by rw [hw1]; exact (Below.refl _ _).alloc (Nat.le_refl _) _)
       clear hw1)
    | (go_at_call 11; refine (hpu _ _ r1).mono ?_; rintro e w2 ⟨rfl, r2, g2⟩
       have b2 := b1.trans (below_gb (Nat.le_refl _) b1.size g2)
       have m2 := hT.below b2)
    | (go_at_call 13; refine (hnx _ m2 _ hlt r2).mono ?_; rintro e w3 ⟨rfl, r3, g3⟩
       have b3 := b2.trans (below_gb (Nat.le_refl _) b2.size g3))
    | (go_at_call 15; refine (held_any _ _ _ _ r3).mono ?_; rintro e w4 ⟨rfl, hw⟩; subst hw))
  go_ret
  exact ⟨rfl, b3⟩
theorem info_parts {t : TypeId} {z : Option Value} {n m : Nat} (h : (Tryd.prog.info? t).map (fun i => (i.zero, i.size, i.bytes)) = some (z, n, m)) : ∃ i, Tryd.prog.info? t = some i ∧ i.zero = z ∧ i.size = n ∧ i.bytes = m := by
  cases hi : Tryd.prog.info? t with
  | none => simp [hi] at h
  | some i =>
    simp [hi] at h
    exact ⟨i, rfl, h⟩
theorem info9 : (Tryd.prog.info? 9).map (fun i => (i.zero, i.size, i.bytes)) = some (some (.string ⟨#[]⟩), 1, 16) := by kernel_rfl
def strCells (l : List (List UInt8)) : List Value := l.map fun b => Value.string ⟨b.toArray⟩
theorem own_below {wr w1 : World} {base size n : Nat} {e : TypeId} {v : Value} {xs : List Value} (h : wr.ownsRow base e size v n xs) (hb : Below wr.heap.size wr w1) : w1.ownsRow base e size v n xs := by
  obtain ⟨h1, h2⟩ := h
  refine ⟨h1, ?_⟩
  rcases h2 with h2 | ⟨g, cap, cur, hv, hg, hh, r⟩
  · exact .inl h2
  · exact .inr ⟨g, cap, cur, hv, hg, (hb.block g (Array.getElem?_eq_some_iff.1 hh).1).trans hh, r⟩
theorem own_base {w : World} {B B' e size n : Nat} {v : Value} {xs : List Value} (h : w.ownsRow B e size v n xs) (hb : B' ≤ B) : w.ownsRow B' e size v n xs := by
  obtain ⟨h1, h2⟩ := h
  refine ⟨h1, ?_⟩
  rcases h2 with h2 | ⟨g, cap, cur, hv, hg, r⟩
  · exact .inl h2
  · exact .inr ⟨g, cap, cur, hv, Nat.le_trans hb hg, r⟩
theorem row_shape {w : World} {B e z n : Nat} {v : Value} {xs : List Value} (h : w.ownsRow B e z v n xs) : ∃ p cap, v = .slice p n cap := by
  rcases h.2 with ⟨h1, h2⟩ | ⟨g, cap, cur, h1, h2⟩
  · exact ⟨none, 0, by rw [h1, h2]⟩
  · exact ⟨_, _, h1⟩
theorem own_kept {w w' : World} {base size n b : Nat} {e : TypeId} {v : Value} {xs : List Value} (h : w.ownsRow base e size v n xs) (hg : w.grownBy w' (some b)) (hb : b < base) : w'.ownsRow base e size v n xs :=
  h.kept hg (by
    by_cases hv : v.ownBlock = none
    · exact .inl hv
    · right
      intro e
      have := (h.lt b e).1
      omega)
theorem str_ones (x : ByteArray) : ∀ u ∈ [Value.string x], u.oneCell' = true := by
  intro u hu
  rw [List.mem_singleton] at hu
  subst hu
  rfl
theorem cells_at_new (w : World) (C : List Value) (t : TypeId) (b : Nat) (hb : b = w.heap.size) : ∀ (j : Nat) (u : Value), C[j]? = some u → (w.alloc (.cells C.toArray t)).cell? ((⟨b, 0, none⟩ : Addr).add j) = some u := by
  intro j u hj
  have e : (⟨b, 0, none⟩ : Addr).add j = ⟨b, j, none⟩ := by simp [Addr.add]; omega
  rw [e, cell_of_row _ b j _ _ _ (alloc_new w _ b hb)]
  simpa using hj
theorem strCells_snoc (l : List (List UInt8)) (x : List UInt8) : strCells (l ++ [x]) = strCells l ++ [Value.string ⟨x.toArray⟩] := by simp [strCells]
set_option maxRecDepth 100000 in
set_option maxHeartbeats 2000000 in
theorem all_broken (w : World) (b : Nat) (h : ByteArray) (r : RD w b h true) : Calls Tryd.prog 18 #[.pointer (some ⟨b, 0, none⟩)] w fun e w' => e = .returned (.tuple #[.slice none 0 0, .int .i64 4]) ∧ Below w.heap.size w w' := by
  have hn := fun w r => next_broken w b h r
  have R := Lib.hid r
  clear r
  go_enter Tryd.func18, Tryd.ntmps18
  go_wp2
  refine wp_loop_rounds 1 ?_
  rw [rounds_succ]
  go_wp2_with (first | (go_at_call 13; refine (hn _ R.out).mono ?_; rintro e w2 ⟨rfl, hb2⟩))
  go_ret2
  exact ⟨rfl, hb2⟩
set_option maxRecDepth 100000 in
set_option maxHeartbeats 2000000 in
theorem all_any (w : World) (hT : MaxV w) (b : Nat) (hb0 : 0 < b) (h : ByteArray) (hs : h.size ≤ 4194304) (r : RD w b h false) {bs : List (List UInt8)} {er : Nat} {h' : List UInt8} (hD : Dr h.data.toList bs er h') (hfew : bs.length < 200) :
    Calls Tryd.prog 18 #[.pointer (some ⟨b, 0, none⟩)] w fun e w' => ∃ v, e = .returned (.tuple #[v, .int .i64 (er : Nat)]) ∧ w'.ownsRow w.heap.size 9 1 v bs.length (strCells bs) ∧ RD w' b ⟨h'.toArray⟩ (decide (er ≠ 0)) ∧ w.grownBy w' (some b) := by
  have hlt := r.lt
  obtain ⟨i9_, hi9, hz0, hz1, hz2⟩ := info_parts info9
  have HD := Lib.hid hD
  have R0 := Lib.hid r
  clear hD r
  go_enter Tryd.func18, Tryd.ntmps18
  go_wp2
  go_loopw [4, 5] (fun v i wr => ∃ (k : Nat) (dn rs : List (List UInt8)) (g : ByteArray), i = .int .i64 k ∧ dn.length = k ∧ dn ++ rs = bs ∧ g.size ≤ 4194304 ∧ Dr g.data.toList rs er h' ∧ wr.ownsRow w.heap.size 9 1 v k (strCells dn) ∧ RD wr b g false ∧ w.grownBy wr (some b)) (fun _ i _ => 200 - (RowKit.intOf i).toNat)
  case atStart => exact ⟨0, [], bs, h, rfl, rfl, rfl, hs, HD.out, World.ownsRow_nil _ _ _ _, R0.out, World.grownBy.refl _ _⟩
  case round =>
    obtain ⟨k, dn, rs, g, rfl, hk, hbs, hg, hD, hown, hr, hgb⟩ := hrel
    have hk2 : k < 200 := by rw [← hbs, List.length_append] at hfew; omega
    have hk3 : (k : Int) < 200 := by omega
    have hm := hT.gb hb0 hgb
    have hn := next_any wr hm b hb0 g hg hr
    have hsz := hgb.size
    have HBS := Lib.hid hbs
    have HK := Lib.hid hk
    have HD2 := Lib.hid hD
    cases hok : (nextV g.data.toList).ok with
    | false =>
      have h1 : rs = [] ∧ (nextV g.data.toList).err = er ∧ g.data.toList = h' ∧ (nextV g.data.toList).held = g.data.toList ∧ (nextV g.data.toList).body = [] := by
        cases hD with
        | stop g1 g2 => exact ⟨rfl, g2, rfl, next_held _ hok⟩
        | step g1 g2 => rw [hok] at g1; cases g1
      obtain ⟨rfl, h2, h3, h4, h5⟩ := h1
      unfold nxVal at hn
      rw [hok, h2, h4, h5] at hn
      have hbe : dn = bs := by rw [← HBS.out, List.append_nil]
      have HBE := Lib.hid hbe
      have H3 := Lib.hid h3
      have e0 : ((er : Int) != 0) = decide (er ≠ 0) := by
        by_cases h : er = 0
        · subst h; rfl
        · rw [decide_eq_true h]; simpa using h
      clear h2 h3 h4 h5 hbs hk hD hok hr hbe
      by_cases he : er = 0
      · subst he
        go_wp2_with (first | (go_at_call 13; refine hn.mono ?_; rintro e w2 ⟨rfl, r2, g2⟩
                              have own2 := own_kept hown g2 hlt))
        obtain ⟨p, cap, rfl⟩ := row_shape hown
        go_ret2
        refine ⟨_, rfl, ?_, ?_, hgb.trans g2⟩
        · rw [← HBE.out, HK.out]; exact own2
        · rw [← H3.out]; exact r2
      · have u1 : ((er : Int) != 0) = true := by simpa using he
        have HE := Lib.hid he
        clear he
        go_wp2_with (first | (go_at_call 13; refine hn.mono ?_; rintro e w2 ⟨rfl, r2, g2⟩
                              have own2 := own_kept hown g2 hlt))
        obtain ⟨p, cap, rfl⟩ := row_shape hown
        go_ret2
        refine ⟨_, rfl, ?_, ?_, hgb.trans g2⟩
        · rw [← HBE.out, HK.out]; exact own2
        · rw [← H3.out]; exact r2
    | true =>
      have h1 : ∃ rs2, rs = (nextV g.data.toList).body :: rs2 ∧ Dr (nextV g.data.toList).held rs2 er h' := by
        cases hD with
        | stop g1 g2 => rw [hok] at g1; cases g1
        | step g1 g2 => exact ⟨_, rfl, g2⟩
      obtain ⟨rs2, hrs, hD2⟩ := h1
      have h2 := next_ok_err _ hok
      have h3 := next_size _ hok
      unfold nxVal at hn
      rw [hok, h2] at hn
      obtain ⟨X, hX⟩ : ∃ X, (nextV g.data.toList).body = X := ⟨_, rfl⟩
      obtain ⟨G, hG⟩ : ∃ G : ByteArray, (⟨(nextV g.data.toList).held.toArray⟩ : ByteArray) = G := ⟨_, rfl⟩
      have hGl : G.data.toList = (nextV g.data.toList).held := by rw [← hG]
      have hGs : G.size ≤ 4194304 := by
        rw [Lib.size_eq, hGl]
        rw [← Lib.size_eq] at h3
        omega
      rw [← hGl] at hD2
      rw [hX] at hrs hn
      rw [hG] at hn
      have hbs2 : (dn ++ [X]) ++ rs2 = bs := by rw [← HBS.out, hrs]; simp
      have HB2 := Lib.hid hbs2
      have HD3 := Lib.hid hD2
      clear h2 h3 hbs hk hD hok hr hrs hX hG hGl hbs2 hD2
      go_wp2_with (first
        | (go_at_call 13; refine hn.mono ?_; rintro e w2 ⟨rfl, r2, g2⟩
           have own2 := own_kept hown g2 hlt
           have R2 := Lib.hid r2
           have gg := hgb.trans g2
           have zz := gg.size
           clear r2)
        | (at_builtin; refine wpList_append_own _ rfl (.tmp 27) (.tmp 29) 41 rfl w.heap.size 9 i9_ _ 1 16 Tryd.underlying41 hi9 hz0 hz1 hz2 rfl (by decide) _ _ _ rfl (own2.alloc _) ⟨w2.heap.size, 0, none⟩ 1 1 [.string ⟨X.toArray⟩] rfl rfl (cells_at_new w2 [.string ⟨X.toArray⟩] 9 _ rfl) (str_ones _) (by unfold maxLen; omega) (by omega) (by simp; omega) ?_; intro v' w3 hown3 hg3 hnil3
           have r3 := (R2.out.below ((Below.refl _ _).alloc (Nat.le_refl _) _)).kept hg3 (by
             intro e
             have := ((own2.alloc (.cells #[.string ⟨X.toArray⟩] 9)).lt _ e.symm).1
             omega)
           have gb3 : w.grownBy w3 (some b) := ⟨hg3.os.trans gg.os, hg3.tape.trans gg.tape, hg3.output.trans gg.output, by have := hg3.size; simp at this; omega, fun j hj hne => (hg3.block j (by simp; omega) (fun e => by have := (own2.lt j e.symm).1; omega)).trans ((Below.heap_alloc _ _ _ (by omega)).trans (gg.block j hj hne))⟩
           clear hg3 hnil3))
      go_roundw
      case rel => exact ⟨k + 1, dn ++ [X], rs2, G, by go_num, by rw [List.length_append, HK.out]; rfl, HB2.out, hGs, HD3.out, by rw [strCells_snoc]; exact hown3, r3, gb3⟩
      case measure => simp [RowKit.intOf]; omega
end Go.Proofs.Fr
