/- jtext's Tokens. -/
import Derived.Test.YtaiaiiepbpbmmaaGreatDoorCmJY
import Derived.Laws.EntriesVeiled
namespace Go.Proofs.Jt
open Go.RowKit Go.Proofs Go.Lib Go.Proofs.Utf

def tokCell (t : Tok) : List Value := [.int .i64 t.kind, .string ⟨t.text.toArray⟩, .int .i64 t.fr, .int .i64 t.to_]
def tokCells (l : List Tok) : List Value := l.flatMap tokCell
def blankB : ByteArray := ⟨#[32, 9, 10, 13]⟩
theorem blank_in : ∀ c : UInt8, (decide (0 ≤ Lib.indexByte blankB.data.toList c)) = isBlankB c := forall_u8 (by decide +kernel)
theorem cut_mk (s : ByteArray) (n : Nat) : s.extract 0 n = ⟨(s.data.toList.take n).toArray⟩ := by
 apply ByteArray.ext
 apply Array.toList_inj.1
 rw [Lib.extract_data]
 simp
theorem ret_tok {x y : ByteArray} {n m : Nat} (h : x = y) (k : n = m) : Ending.returned (.tuple #[.string x, .int .i64 (n : Int)]) = .returned (.tuple #[.string y, .int .i64 (m : Int)]) := by rw [h, k]
def Look (f : FuncId) (X : ByteArray) (x : List UInt8) (n : Nat) : Prop := ∀ w, Tabs w → Calls Tryz.prog f #[.string X] w fun e w' => e = .returned (.tuple #[.string ⟨x.toArray⟩, .int .i64 (n : Nat)]) ∧ Below w.heap.size w w'
theorem look_mark (X : ByteArray) (h : 0 < X.size) : ∃ (x : List UInt8) (n : Nat), Look 158 X x n ∧ (n = if isMarkB X[0] then 1 else 0) ∧ x = X.data.toList.take n := by
 cases hm : isMarkB X[0] with
 | true =>
  refine ⟨_, 1, fun w _ => (mark_yes X w h hm).mono ?_, rfl, rfl⟩
  rintro e w' ⟨rfl, rfl⟩
  exact ⟨ret_tok (cut_mk X 1) rfl, Below.refl _ _⟩
 | false =>
  refine ⟨[], 0, fun w _ => (mark_no X w h hm).mono ?_, rfl, by simp⟩
  rintro e w' ⟨rfl, rfl⟩
  exact ⟨rfl, Below.refl _ _⟩
theorem look_word (X : ByteArray) (hs : X.size ≤ 16777216) : Look 159 X (X.data.toList.take (wordN X.data.toList)) (wordN X.data.toList) := by
 intro w _
 by_cases hw : 0 < wordN X.data.toList
 · refine (word_yes X w (by omega) hw).mono ?_
   rintro e w' ⟨rfl, hb⟩
   exact ⟨ret_tok (cut_mk X _) rfl, hb⟩
 · have h0 : wordN X.data.toList = 0 := by omega
   refine (word_no X w (by omega) h0).mono ?_
   rintro e w' ⟨rfl, hb⟩
   rw [h0]
   exact ⟨rfl, hb⟩
theorem look_num (X : ByteArray) (hs : X.size ≤ 16777216) (h : 0 < X.size) : Look 160 X (X.data.toList.take (numN X.data.toList)) (numN X.data.toList) := by
 intro w _
 by_cases hd : run isDig (X.data.toList.drop (negN X.data.toList)) = 0
 · refine (number_no X w (by omega) h hd).mono ?_
   rintro e w' ⟨rfl, hb⟩
   rw [numN_zero hd]
   exact ⟨rfl, hb⟩
 · refine (number_yes X w (by omega) h hd).mono ?_
   rintro e w' ⟨rfl, hb⟩
   exact ⟨ret_tok (cut_mk X _) rfl, hb⟩
def strO : Option (List UInt8 × Nat) → List UInt8 × Nat
 | none => ([], 0)
 | some r => (r.1, r.2 + 1)
theorem qV_str (o : Option (List UInt8 × Nat)) : qV o = .tuple #[.string ⟨(strO o).1.toArray⟩, .int .i64 ((strO o).2 : Nat)] := by cases o <;> rfl
theorem look_str (X : ByteArray) (hs : X.size ≤ 16777216) (h : 0 < X.size) (hv : validD X.data.toList = true) :
 ∃ o, Look 161 X (strO o).1 (strO o).2 ∧ o = if X[0] = 34 then qq (X.data.toList.drop 1) else none := by
 by_cases h0 : X[0] = 34
 · have e0 := list_at X 0 h
   have hne : X.data.toList ≠ [] := fun e => by rw [e] at e0; cases e0
   obtain ⟨c, t, e⟩ := List.exists_cons_of_ne_nil hne
   rw [e] at e0
   have hc : c = 34 := by rw [← h0]; exact Option.some.inj e0
   have hvt : validD (X.data.toList.drop 1) = true := by
    rw [e] at hv ⊢
    exact valid_ascii c t (by rw [hc]; decide) hv
   refine ⟨_, fun w hT => ?_, rfl⟩
   rw [if_pos h0]
   refine (quoted_walk X w hT hs h h0 hvt _ rfl).mono ?_
   rintro e w' ⟨rfl, hb⟩
   exact ⟨by rw [qV_str], hb⟩
 · refine ⟨none, fun w hT => (quoted_other X w h h0).mono ?_, by rw [if_neg h0]⟩
   rintro e w' ⟨rfl, rfl⟩
   exact ⟨rfl, Below.refl _ _⟩
theorem word_first (c : UInt8) (t : List UInt8) (h : isLow c = false) : wordN (c :: t) = 0 := by
 have e : run isLow (c :: t) = 0 := by rw [run_cons, h]; rfl
 unfold wordN
 rw [e]
 split <;> rfl
theorem num_first (c : UInt8) (t : List UInt8) (h : isDig c = false) (h2 : c ≠ 45) : numN (c :: t) = 0 := by
 apply numN_zero
 have : negN (c :: t) = 0 := by
  unfold negN
  rw [if_neg (by simpa using h2)]
 rw [this, List.drop_zero, run_cons, if_neg (by rw [h]; decide)]
theorem looks (X : ByteArray) (hs : X.size ≤ 16777216) (h : 0 < X.size) (hv : validD X.data.toList = true) :
 ∃ (x0 x1 x2 x3 : List UInt8) (n0 n1 n2 n3 : Nat), Look 158 X x0 n0 ∧ Look 159 X x1 n1 ∧ Look 160 X x2 n2 ∧ Look 161 X x3 n3 ∧
  (0 < n0 → nextL X.data.toList = some (1, x0, n0)) ∧ (n0 = 0 → 0 < n1 → nextL X.data.toList = some (2, x1, n1)) ∧ (n0 = 0 → n1 = 0 → 0 < n2 → nextL X.data.toList = some (3, x2, n2)) ∧
  (n0 = 0 → n1 = 0 → n2 = 0 → 0 < n3 → nextL X.data.toList = some (4, x3, n3)) ∧ (n0 = 0 → n1 = 0 → n2 = 0 → n3 = 0 → nextL X.data.toList = none) := by
 obtain ⟨x0, n0, L0, hn0, hx0⟩ := look_mark X h
 obtain ⟨o, L3, ho⟩ := look_str X hs h hv
 have e0 := list_at X 0 h
 have hne : X.data.toList ≠ [] := fun e => by rw [e] at e0; cases e0
 refine ⟨x0, _, _, _, n0, _, _, _, L0, look_word X hs, look_num X hs h, L3, ?_⟩
 obtain ⟨c, t, e⟩ := List.exists_cons_of_ne_nil hne
 rw [e] at e0 ho hx0 ⊢
 have hc : X[0] = c := (Option.some.inj e0).symm
 rw [hc] at hn0 ho
 rw [nextL_cons]
 simp only [List.drop_succ_cons, List.drop_zero] at ho
 cases hm : isMarkB c with
 | true =>
  rw [hm, if_pos rfl] at hn0
  subst hn0
  refine ⟨fun _ => by rw [hx0]; rfl, fun h => by omega, fun h => by omega, fun h => by omega, fun h => by omega⟩
 | false =>
  rw [hm, if_neg (by decide)] at hn0
  subst hn0
  simp only [Bool.false_eq_true, if_false]
  refine ⟨fun h => by omega, ?_⟩
  by_cases h34 : c = 34
  · subst h34
    rw [if_pos rfl] at ho
    rw [word_first 34 t (by decide), num_first 34 t (by decide) (by decide), if_pos rfl, ← ho]
    refine ⟨fun _ h => by omega, fun _ _ h => by omega, fun _ _ _ h => ?_, fun _ _ _ h => ?_⟩
    · cases o with
      | none => simp [strO] at h
      | some r => rfl
    · cases o with
      | none => rfl
      | some r => simp [strO] at h
  · rw [if_neg h34] at ho
    subst ho
    rw [if_neg h34]
    refine ⟨fun _ h => by rw [if_pos h], fun _ h1 h2 => by rw [if_neg (by omega), if_pos h2], fun _ _ _ h => by simp [strO] at h, fun _ h1 h2 _ => by rw [if_neg (by omega), if_neg (by omega)]⟩
theorem own_below {wr w1 : World} {base size n : Nat} {e : TypeId} {v : Value} {xs : List Value} (h : wr.ownsRow base e size v n xs) (hb : Below wr.heap.size wr w1) : w1.ownsRow base e size v n xs := by
 obtain ⟨h1, h2⟩ := h
 refine ⟨h1, ?_⟩
 rcases h2 with h2 | ⟨g, cap, cur, hv, hg, hh, r⟩
 · exact .inl h2
 · exact .inr ⟨g, cap, cur, hv, hg, (hb.block g (ltS hh)).trans hh, r⟩
theorem own_base {w : World} {B B' e size n : Nat} {v : Value} {xs : List Value} (h : w.ownsRow B e size v n xs) (hb : B' ≤ B) : w.ownsRow B' e size v n xs := by
 obtain ⟨h1, h2⟩ := h
 refine ⟨h1, ?_⟩
 rcases h2 with h2 | ⟨g, cap, cur, hv, hg, r⟩
 · exact .inl h2
 · exact .inr ⟨g, cap, cur, hv, Nat.le_trans hb hg, r⟩
theorem row_shape {w : World} {B e z n : Nat} {v : Value} {xs : List Value} (h : w.ownsRow B e z v n xs) : ∃ p cap, v = .slice p n cap := by
 rcases h.2 with ⟨h1, h2⟩ | ⟨g, cap, cur, h1, h2⟩
 · exact ⟨none, 0, by rw [h1, h2]⟩
 · exact ⟨_, _, h1⟩
theorem info_parts {t : TypeId} {z : Option Value} {n m : Nat} (h : (Tryz.prog.info? t).map (fun i => (i.zero, i.size, i.bytes)) = some (z, n, m)) : ∃ i, Tryz.prog.info? t = some i ∧ i.zero = z ∧ i.size = n ∧ i.bytes = m := by
 cases e : Tryz.prog.info? t with
 | none => rw [e] at h; cases h
 | some i =>
  rw [e] at h
  simp only [Option.map_some, Option.some.injEq, Prod.mk.injEq] at h
  exact ⟨i, rfl, h⟩
theorem info32 : (Tryz.prog.info? 222).map (fun i => (i.zero, i.size, i.bytes)) = some (some (.agg #[.int .i64 0, .string ⟨#[]⟩, .int .i64 0, .int .i64 0]), 4, 40) := by kernel_rfl
theorem cells_at_new (w : World) (C : List Value) (t : TypeId) (b : Nat) (hb : b = w.heap.size) : ∀ (j : Nat) (u : Value), C[j]? = some u → (w.alloc (.cells C.toArray t)).cell? ((⟨b, 0, none⟩ : Addr).add j) = some u := by
 subst hb
 intro j u h
 have e : (w.alloc (.cells C.toArray t)).cell? ⟨w.heap.size, j, none⟩ = C.toArray[j]? := World.cell?_alloc_mark w C.toArray t (0, 0) j
 rw [show (Addr.add ⟨w.heap.size, 0, none⟩ j) = ⟨w.heap.size, j, none⟩ by unfold Addr.add; split <;> simp_all, e]
 simpa using h
theorem tok_ones (k a b : Int) (x : ByteArray) : ∀ u ∈ [Value.int .i64 k, .string x, .int .i64 a, .int .i64 b], u.oneCell' = true := by
 intro u hu
 simp at hu
 rcases hu with rfl | rfl | rfl | rfl <;> rfl
theorem cell_of_row (w : World) (b i : Nat) (c : Array Value) (t : TypeId) (z : Nat × Nat) (h : w.heap[b]? = some (.cells c t z)) : w.cell? ⟨b, i, none⟩ = c[i]? := by
 simp [World.cell?, h]
theorem tokCells_snoc (l : List Tok) (t : Tok) : tokCells (l ++ [t]) = tokCells l ++ tokCell t := by simp [tokCells]
def Kinds (w : World) (b : Nat) : Prop := w.heap[b]? = some (.cells #[.int .i64 1, .func (.func 158) #[] #[], .int .i64 2, .func (.func 159) #[] #[], .int .i64 3, .func (.func 160) #[] #[], .int .i64 4, .func (.func 161) #[] #[]] 219 (0, 0))
set_option maxRecDepth 100000 in
set_option maxHeartbeats 1000000 in
theorem tokens_broken (s : ByteArray) (w : World) (hT : Tabs w) (hs : s.size ≤ 16777216) (hv : validD s.data.toList = false) :
 Calls Tryz.prog 110 #[.string s] w fun e w' => e = .returned (.tuple #[.slice none 0 0, .int .i64 (br s.data.toList 0 : Nat), .int .i64 8]) ∧ Below w.heap.size w w' := by
 have hval := Tryz.utf8_ValidString s w (by omega) hT.1
 rw [hv] at hval
 go_enter Tryz.func110, Tryz.ntmps110
 go_wp2_with (first
  | (go_at_call 156; refine hval.mono ?_; rintro e w1 ⟨rfl, hb1⟩)
  | (go_at_call 157; refine (broken_any s w1 hs).mono ?_; rintro e w2 ⟨rfl, hb2⟩))
 go_ret3
 exact ⟨rfl, hb1.trans (hb2.mono hb1.size)⟩
set_option maxRecDepth 100000 in
set_option maxHeartbeats 4000000 in
theorem tokens_walk (s : ByteArray) (w : World) (hT : Tabs w) (hs : s.size ≤ 16777216) (hv : validD s.data.toList = true) (R : List Tok × Nat × Nat) (hR : tt s.data.toList 0 [] = R) :
 Calls Tryz.prog 110 #[.string s] w fun e w' => ∃ v, e = .returned (.tuple #[v, .int .i64 (R.2.1 : Nat), .int .i64 (R.2.2 : Nat)]) ∧ w'.ownsRow w.heap.size 222 4 v R.1.length (tokCells R.1) ∧ Below w.heap.size w w' := by
 have hval := Tryz.utf8_ValidString s w (by omega) hT.1
 rw [hv] at hval
 go_enter Tryz.func110, Tryz.ntmps110
 go_wp2_with (first
  | (go_at_call 156; refine hval.mono ?_; rintro e w1 ⟨rfl, hb1⟩))
 have b2 : Kinds (w1.alloc (.cells #[.int .i64 1, .func (.func 158) #[] #[], .int .i64 2, .func (.func 159) #[] #[], .int .i64 3, .func (.func 160) #[] #[], .int .i64 4, .func (.func 161) #[] #[]] 219)) w1.heap.size := Array.getElem?_push_size
 have d2 : Below w.heap.size w (w1.alloc (.cells #[.int .i64 1, .func (.func 158) #[] #[], .int .i64 2, .func (.func 159) #[] #[], .int .i64 3, .func (.func 160) #[] #[], .int .i64 4, .func (.func 161) #[] #[]] 219)) := hb1.alloc hb1.size _
 generalize w1.alloc (.cells #[.int .i64 1, .func (.func 158) #[] #[], .int .i64 2, .func (.func 159) #[] #[], .int .i64 3, .func (.func 160) #[] #[], .int .i64 4, .func (.func 161) #[] #[]] 219) = W2 at b2 d2 ⊢
 generalize w1.heap.size = kb at b2 ⊢
 have hT2 := hT.below d2
 have hkb : kb < W2.heap.size := (ltS b2)
 clear hval hb1
 go_loopw [2, 6] (fun v a wr => ∃ (at_ : Nat) (toks : List Tok), a = .int .i64 at_ ∧ at_ ≤ s.size ∧ toks.length ≤ at_ ∧ wr.ownsRow W2.heap.size 222 4 v toks.length (tokCells toks) ∧ Below W2.heap.size W2 wr ∧ validD (s.data.toList.drop at_) = true ∧ tt (s.data.toList.drop at_) at_ toks = R) (fun _ a _ => s.size - (RowKit.intOf a).toNat)
 case atStart => exact ⟨0, [], rfl, Nat.zero_le _, Nat.le_refl _, World.ownsRow_nil _ _ _ _, Below.refl _ _, hv, hR⟩
 case round =>
  obtain ⟨at_, toks, rfl, hat, htl, hown, hB, hvi, htt⟩ := hrel
  have HV := Lib.hid hvi
  have HR := Lib.hid htt
  clear hvi htt
  by_cases hlt : (at_ : Int) < (s.size : Int)
  · have hlt' : at_ < s.size := by omega
    have hne : s.data.toList.drop at_ ≠ [] := by
     intro e
     have := congrArg List.length e
     rw [List.length_drop, ← Lib.size_eq] at this
     simp at this
     omega
    obtain ⟨c, t, hct⟩ := List.exists_cons_of_ne_nil hne
    have hc : s[at_] = c := by
     have h1 := list_at s at_ hlt'
     have h2 : s.data.toList[at_]? = (s.data.toList.drop at_)[0]? := by rw [List.getElem?_drop]; simp
     rw [h1, hct] at h2
     exact Option.some.inj h2
    have hdt : t = s.data.toList.drop (at_ + 1) := by
     have := congrArg List.tail hct
     rw [List.tail_drop] at this
     exact this.symm
    have hib := ib_any blankB s[at_]
    have hbl := blank_in s[at_]
    unfold blankB at hib hbl
    obtain ⟨ix, hix⟩ : ∃ ix, Lib.indexByte (⟨#[32, 9, 10, 13]⟩ : ByteArray).data.toList s[at_] = ix := ⟨_, rfl⟩
    simp only [hix] at hib hbl
    have HCT := Lib.hid hct
    have HDT := Lib.hid hdt
    have HC := Lib.hid hc
    clear hct hdt hc hix
    cases hbk : isBlankB s[at_] with
    | true =>
     rw [hbk] at hbl
     go_wp2_with (first
      | (go_at_call 162; refine (hib _).mono ?_; rintro e w3 ⟨rfl, hw⟩; subst hw))
     go_roundw
     case rel =>
      refine ⟨at_ + 1, toks, by go_num, by omega, by omega, hown, hB, ?_, ?_⟩
      · have hv2 := HV.out
        rw [HCT.out] at hv2
        rw [← HDT.out]
        have hlow : ∀ c : UInt8, isBlankB c = true → c.toNat < 128 := forall_u8 (by decide +kernel)
        exact valid_ascii c t (hlow c (by rw [← HC.out]; exact hbk)) hv2
      · have e := HR.out
        rw [HCT.out, tt_blank c t _ _ (by rw [← HC.out]; exact hbk), HDT.out] at e
        exact e
     case measure => simp [RowKit.intOf]; omega
    | false =>
     rw [hbk] at hbl
     have hX : (s.extract at_ s.size).data.toList = s.data.toList.drop at_ := Lib.extract_to_end s at_
     have hXs : (s.extract at_ s.size).size = s.size - at_ := by rw [ByteArray.size_extract]; omega
     obtain ⟨y0, y1, y2, y3, n0, n1, n2, n3, L0, L1, L2, L3, i0, i1, i2, i3, i4⟩ := looks (s.extract at_ s.size) (by omega) (by omega) (by rw [hX]; exact HV.out)
     rw [hX] at i0 i1 i2 i3 i4
     go_wp2_with (first
      | (go_at_call 162; refine (hib _).mono ?_; rintro e w3 ⟨rfl, hw⟩; subst hw))
     have kc : ∀ {wx : World}, Below W2.heap.size W2 wx → ∀ (i : Nat) (v : Value), (#[Value.int .i64 1, .func (.func 158) #[] #[], .int .i64 2, .func (.func 159) #[] #[], .int .i64 3, .func (.func 160) #[] #[], .int .i64 4, .func (.func 161) #[] #[]] : Array Value)[i]? = some v → wx.cell? ⟨kb, i, none⟩ = some v := fun hb i v hi => by
      rw [cell_of_row _ kb i _ _ _ ((hb.block kb hkb).trans b2)]
      exact hi
     obtain ⟨i32_, hi32, hz0, hz1, hz2⟩ := info_parts info32
     refine wp_loop_rounds 5 ?_
     have k0a := kc hB 0 _ rfl
     have k0b := kc hB 1 _ rfl
     rw [rounds_succ]
     go_wp2
     have a0 : Below W2.heap.size W2 (wr.alloc (.cells #[.int .i64 1, .func (.func 158) #[] #[]] 219)) := hB.alloc hB.size _
     have x0 : (wr.alloc (.cells #[.int .i64 1, .func (.func 158) #[] #[]] 219)).heap[wr.heap.size]? = some (.cells #[.int .i64 1, .func (.func 158) #[] #[]] 219 (0, 0)) := Array.getElem?_push_size
     have o0 := own_below hown ((Below.refl _ _).alloc (Nat.le_refl wr.heap.size) (.cells #[.int .i64 1, .func (.func 158) #[] #[]] 219))
     have z0 : wr.heap.size < (wr.alloc (.cells #[.int .i64 1, .func (.func 158) #[] #[]] 219)).heap.size := (ltS x0)
     generalize wr.alloc (.cells #[.int .i64 1, .func (.func 158) #[] #[]] 219) = V0 at a0 x0 o0 z0 ⊢
     generalize wr.heap.size = B0 at x0 z0 ⊢
     have f0 : V0.cell? ⟨B0, 1, none⟩ = some (.func (.func 158) #[] #[]) := by rw [cell_of_row _ _ 1 _ _ _ x0]; rfl
     have g0 := hT2.below a0.drew
     clear k0a k0b
     go_region_held3 (fun v => v.cell? ⟨B0, 1, none⟩ = some (.func (.func 158) #[] #[])) (first | exact f0 | assumption) ((go_at_call 158; refine (L0 _ g0).mono ?_; rintro e w0' ⟨rfl, hb0⟩; have fn0 := (hb0.cell (p := ⟨B0, 1, none⟩) z0).trans f0))
     have D0 : Below W2.heap.size W2 w0' := a0.drew.trans (hb0.mono a0.size)
     have own0 := own_below o0 ((Below.refl V0.heap.size V0).drew.trans hb0)
     have fk0 : w0'.cell? ⟨B0, 0, none⟩ = some (.int .i64 1) := (hb0.cell (p := ⟨B0, 0, none⟩) z0).trans (by show V0.cell? _ = _; rw [cell_of_row _ _ 0 _ _ _ x0]; rfl)
     clear fn0 f0 g0
     by_cases h0 : 0 < n0
     · have t0 : (0 : Int) < (n0 : Int) := by omega
       have hnx := i0  h0
       have hnl := nextL_le _ _ hnx
       rw [List.length_drop, ← Lib.size_eq] at hnl
       have hle : at_ + n0 ≤ s.size := by (have := hnl.2; simp only at this; omega)
       have hsum : (at_ : Int) + (n0 : Int) ≤ 16777216 := by omega
       clear hnl
       have HNX := Lib.hid hnx
       have hvn := Lib.hid (valid_next _ HV.out _ hnx)
       clear hnx
       have hnew := cells_at_new w0' [.int .i64 1, .string ⟨y0.toArray⟩, .int .i64 at_, .int .i64 (at_ + n0)] 222 _ rfl
       have hD0 := D0.size
       go_wp2_with (first
        | (at_builtin; refine wpList_append_own _ rfl (.tmp 51) (.tmp 60) 164 rfl W2.heap.size 222 i32_ _ 4 40 Tryz.underlying164 hi32 hz0 hz1 hz2 rfl (by decide) _ _ _ rfl (own0.alloc _) ⟨w0'.heap.size, 0, none⟩ 1 1 [.int .i64 1, .string ⟨y0.toArray⟩, .int .i64 at_, .int .i64 (at_ + n0)] rfl rfl hnew (tok_ones _ _ _ _) (by unfold maxLen; omega) (by omega) (by simp; omega) ?_; intro v' w' hown' hg' hnil'
           have HD := (D0.alloc hD0 _).grown hg' (by simp; omega) (fun q hq => (own0.lt q hq).1)
           clear hg' hnil'))
       go_roundw
       case rel =>
        refine ⟨at_ + n0, toks ++ [⟨1, y0, at_, at_ + n0⟩], by go_num, by omega, by simp; omega, ?_, HD, ?_, ?_⟩
        · rw [tokCells_snoc]
          simpa [tokCell] using hown'
        · have := hvn.out
          rw [List.drop_drop] at this
          exact this
        · have e := HR.out
          have hx := HNX.out
          rw [HCT.out] at e hx
          rw [tt_some c t _ _ (by rw [← HC.out]; exact hbk) hx, ← HCT.out, List.drop_drop] at e
          exact e
       case measure => simp [RowKit.intOf]; omega
     · have t0 : ¬ (0 : Int) < (n0 : Int) := by omega
       go_wp2
       have k1a := kc D0 2 _ rfl
       have k1b := kc D0 3 _ rfl
       rw [rounds_succ]
       go_wp2
       have a1 : Below W2.heap.size W2 (w0'.alloc (.cells #[.int .i64 2, .func (.func 159) #[] #[]] 219)) := D0.alloc D0.size _
       have x1 : (w0'.alloc (.cells #[.int .i64 2, .func (.func 159) #[] #[]] 219)).heap[w0'.heap.size]? = some (.cells #[.int .i64 2, .func (.func 159) #[] #[]] 219 (0, 0)) := Array.getElem?_push_size
       have o1 := own_below own0 ((Below.refl _ _).alloc (Nat.le_refl w0'.heap.size) (.cells #[.int .i64 2, .func (.func 159) #[] #[]] 219))
       have z1 : w0'.heap.size < (w0'.alloc (.cells #[.int .i64 2, .func (.func 159) #[] #[]] 219)).heap.size := (ltS x1)
       generalize w0'.alloc (.cells #[.int .i64 2, .func (.func 159) #[] #[]] 219) = V1 at a1 x1 o1 z1 ⊢
       generalize w0'.heap.size = B1 at x1 z1 ⊢
       have f1 : V1.cell? ⟨B1, 1, none⟩ = some (.func (.func 159) #[] #[]) := by rw [cell_of_row _ _ 1 _ _ _ x1]; rfl
       have g1 := hT2.below a1.drew
       clear k1a k1b
       go_region_held3 (fun v => v.cell? ⟨B1, 1, none⟩ = some (.func (.func 159) #[] #[])) (first | exact f1 | assumption) ((go_at_call 159; refine (L1 _ g1).mono ?_; rintro e w1' ⟨rfl, hb1⟩; have fn1 := (hb1.cell (p := ⟨B1, 1, none⟩) z1).trans f1))
       have D1 : Below W2.heap.size W2 w1' := a1.drew.trans (hb1.mono a1.size)
       have own1 := own_below o1 ((Below.refl V1.heap.size V1).drew.trans hb1)
       have fk1 : w1'.cell? ⟨B1, 0, none⟩ = some (.int .i64 2) := (hb1.cell (p := ⟨B1, 0, none⟩) z1).trans (by show V1.cell? _ = _; rw [cell_of_row _ _ 0 _ _ _ x1]; rfl)
       clear fn1 f1 g1
       by_cases h1 : 0 < n1
       · have t1 : (0 : Int) < (n1 : Int) := by omega
         have hnx := i1 (by omega) h1
         have hnl := nextL_le _ _ hnx
         rw [List.length_drop, ← Lib.size_eq] at hnl
         have hle : at_ + n1 ≤ s.size := by (have := hnl.2; simp only at this; omega)
         have hsum : (at_ : Int) + (n1 : Int) ≤ 16777216 := by omega
         clear hnl
         have HNX := Lib.hid hnx
         have hvn := Lib.hid (valid_next _ HV.out _ hnx)
         clear hnx
         have hnew := cells_at_new w1' [.int .i64 2, .string ⟨y1.toArray⟩, .int .i64 at_, .int .i64 (at_ + n1)] 222 _ rfl
         have hD1 := D1.size
         go_wp2_with (first
          | (at_builtin; refine wpList_append_own _ rfl (.tmp 51) (.tmp 60) 164 rfl W2.heap.size 222 i32_ _ 4 40 Tryz.underlying164 hi32 hz0 hz1 hz2 rfl (by decide) _ _ _ rfl (own1.alloc _) ⟨w1'.heap.size, 0, none⟩ 1 1 [.int .i64 2, .string ⟨y1.toArray⟩, .int .i64 at_, .int .i64 (at_ + n1)] rfl rfl hnew (tok_ones _ _ _ _) (by unfold maxLen; omega) (by omega) (by simp; omega) ?_; intro v' w' hown' hg' hnil'
             have HD := (D1.alloc hD1 _).grown hg' (by simp; omega) (fun q hq => (own1.lt q hq).1)
             clear hg' hnil'))
         go_roundw
         case rel =>
          refine ⟨at_ + n1, toks ++ [⟨2, y1, at_, at_ + n1⟩], by go_num, by omega, by simp; omega, ?_, HD, ?_, ?_⟩
          · rw [tokCells_snoc]
            simpa [tokCell] using hown'
          · have := hvn.out
            rw [List.drop_drop] at this
            exact this
          · have e := HR.out
            have hx := HNX.out
            rw [HCT.out] at e hx
            rw [tt_some c t _ _ (by rw [← HC.out]; exact hbk) hx, ← HCT.out, List.drop_drop] at e
            exact e
         case measure => simp [RowKit.intOf]; omega
       · have t1 : ¬ (0 : Int) < (n1 : Int) := by omega
         go_wp2
         have k2a := kc D1 4 _ rfl
         have k2b := kc D1 5 _ rfl
         rw [rounds_succ]
         go_wp2
         have a2 : Below W2.heap.size W2 (w1'.alloc (.cells #[.int .i64 3, .func (.func 160) #[] #[]] 219)) := D1.alloc D1.size _
         have x2 : (w1'.alloc (.cells #[.int .i64 3, .func (.func 160) #[] #[]] 219)).heap[w1'.heap.size]? = some (.cells #[.int .i64 3, .func (.func 160) #[] #[]] 219 (0, 0)) := Array.getElem?_push_size
         have o2 := own_below own1 ((Below.refl _ _).alloc (Nat.le_refl w1'.heap.size) (.cells #[.int .i64 3, .func (.func 160) #[] #[]] 219))
         have z2 : w1'.heap.size < (w1'.alloc (.cells #[.int .i64 3, .func (.func 160) #[] #[]] 219)).heap.size := (ltS x2)
         generalize w1'.alloc (.cells #[.int .i64 3, .func (.func 160) #[] #[]] 219) = V2 at a2 x2 o2 z2 ⊢
         generalize w1'.heap.size = B2 at x2 z2 ⊢
         have f2 : V2.cell? ⟨B2, 1, none⟩ = some (.func (.func 160) #[] #[]) := by rw [cell_of_row _ _ 1 _ _ _ x2]; rfl
         have g2 := hT2.below a2.drew
         clear k2a k2b
         go_region_held3 (fun v => v.cell? ⟨B2, 1, none⟩ = some (.func (.func 160) #[] #[])) (first | exact f2 | assumption) ((go_at_call 160; refine (L2 _ g2).mono ?_; rintro e w2' ⟨rfl, hb2⟩; have fn2 := (hb2.cell (p := ⟨B2, 1, none⟩) z2).trans f2))
         have D2 : Below W2.heap.size W2 w2' := a2.drew.trans (hb2.mono a2.size)
         have own2 := own_below o2 ((Below.refl V2.heap.size V2).drew.trans hb2)
         have fk2 : w2'.cell? ⟨B2, 0, none⟩ = some (.int .i64 3) := (hb2.cell (p := ⟨B2, 0, none⟩) z2).trans (by show V2.cell? _ = _; rw [cell_of_row _ _ 0 _ _ _ x2]; rfl)
         clear fn2 f2 g2
         by_cases h2 : 0 < n2
         · have t2 : (0 : Int) < (n2 : Int) := by omega
           have hnx := i2 (by omega) (by omega) h2
           have hnl := nextL_le _ _ hnx
           rw [List.length_drop, ← Lib.size_eq] at hnl
           have hle : at_ + n2 ≤ s.size := by (have := hnl.2; simp only at this; omega)
           have hsum : (at_ : Int) + (n2 : Int) ≤ 16777216 := by omega
           clear hnl
           have HNX := Lib.hid hnx
           have hvn := Lib.hid (valid_next _ HV.out _ hnx)
           clear hnx
           have hnew := cells_at_new w2' [.int .i64 3, .string ⟨y2.toArray⟩, .int .i64 at_, .int .i64 (at_ + n2)] 222 _ rfl
           have hD2 := D2.size
           go_wp2_with (first
            | (at_builtin; refine wpList_append_own _ rfl (.tmp 51) (.tmp 60) 164 rfl W2.heap.size 222 i32_ _ 4 40 Tryz.underlying164 hi32 hz0 hz1 hz2 rfl (by decide) _ _ _ rfl (own2.alloc _) ⟨w2'.heap.size, 0, none⟩ 1 1 [.int .i64 3, .string ⟨y2.toArray⟩, .int .i64 at_, .int .i64 (at_ + n2)] rfl rfl hnew (tok_ones _ _ _ _) (by unfold maxLen; omega) (by omega) (by simp; omega) ?_; intro v' w' hown' hg' hnil'
               have HD := (D2.alloc hD2 _).grown hg' (by simp; omega) (fun q hq => (own2.lt q hq).1)
               clear hg' hnil'))
           go_roundw
           case rel =>
            refine ⟨at_ + n2, toks ++ [⟨3, y2, at_, at_ + n2⟩], by go_num, by omega, by simp; omega, ?_, HD, ?_, ?_⟩
            · rw [tokCells_snoc]
              simpa [tokCell] using hown'
            · have := hvn.out
              rw [List.drop_drop] at this
              exact this
            · have e := HR.out
              have hx := HNX.out
              rw [HCT.out] at e hx
              rw [tt_some c t _ _ (by rw [← HC.out]; exact hbk) hx, ← HCT.out, List.drop_drop] at e
              exact e
           case measure => simp [RowKit.intOf]; omega
         · have t2 : ¬ (0 : Int) < (n2 : Int) := by omega
           go_wp2
           have k3a := kc D2 6 _ rfl
           have k3b := kc D2 7 _ rfl
           rw [rounds_succ]
           go_wp2
           have a3 : Below W2.heap.size W2 (w2'.alloc (.cells #[.int .i64 4, .func (.func 161) #[] #[]] 219)) := D2.alloc D2.size _
           have x3 : (w2'.alloc (.cells #[.int .i64 4, .func (.func 161) #[] #[]] 219)).heap[w2'.heap.size]? = some (.cells #[.int .i64 4, .func (.func 161) #[] #[]] 219 (0, 0)) := Array.getElem?_push_size
           have o3 := own_below own2 ((Below.refl _ _).alloc (Nat.le_refl w2'.heap.size) (.cells #[.int .i64 4, .func (.func 161) #[] #[]] 219))
           have z3 : w2'.heap.size < (w2'.alloc (.cells #[.int .i64 4, .func (.func 161) #[] #[]] 219)).heap.size := (ltS x3)
           generalize w2'.alloc (.cells #[.int .i64 4, .func (.func 161) #[] #[]] 219) = V3 at a3 x3 o3 z3 ⊢
           generalize w2'.heap.size = B3 at x3 z3 ⊢
           have f3 : V3.cell? ⟨B3, 1, none⟩ = some (.func (.func 161) #[] #[]) := by rw [cell_of_row _ _ 1 _ _ _ x3]; rfl
           have g3 := hT2.below a3.drew
           clear k3a k3b
           go_region_held3 (fun v => v.cell? ⟨B3, 1, none⟩ = some (.func (.func 161) #[] #[])) (first | exact f3 | assumption) ((go_at_call 161; refine (L3 _ g3).mono ?_; rintro e w3' ⟨rfl, hb3⟩; have fn3 := (hb3.cell (p := ⟨B3, 1, none⟩) z3).trans f3))
           have D3 : Below W2.heap.size W2 w3' := a3.drew.trans (hb3.mono a3.size)
           have own3 := own_below o3 ((Below.refl V3.heap.size V3).drew.trans hb3)
           have fk3 : w3'.cell? ⟨B3, 0, none⟩ = some (.int .i64 4) := (hb3.cell (p := ⟨B3, 0, none⟩) z3).trans (by show V3.cell? _ = _; rw [cell_of_row _ _ 0 _ _ _ x3]; rfl)
           clear fn3 f3 g3
           by_cases h3 : 0 < n3
           · have t3 : (0 : Int) < (n3 : Int) := by omega
             have hnx := i3 (by omega) (by omega) (by omega) h3
             have hnl := nextL_le _ _ hnx
             rw [List.length_drop, ← Lib.size_eq] at hnl
             have hle : at_ + n3 ≤ s.size := by (have := hnl.2; simp only at this; omega)
             have hsum : (at_ : Int) + (n3 : Int) ≤ 16777216 := by omega
             clear hnl
             have HNX := Lib.hid hnx
             have hvn := Lib.hid (valid_next _ HV.out _ hnx)
             clear hnx
             have hnew := cells_at_new w3' [.int .i64 4, .string ⟨y3.toArray⟩, .int .i64 at_, .int .i64 (at_ + n3)] 222 _ rfl
             have hD3 := D3.size
             go_wp2_with (first
              | (at_builtin; refine wpList_append_own _ rfl (.tmp 51) (.tmp 60) 164 rfl W2.heap.size 222 i32_ _ 4 40 Tryz.underlying164 hi32 hz0 hz1 hz2 rfl (by decide) _ _ _ rfl (own3.alloc _) ⟨w3'.heap.size, 0, none⟩ 1 1 [.int .i64 4, .string ⟨y3.toArray⟩, .int .i64 at_, .int .i64 (at_ + n3)] rfl rfl hnew (tok_ones _ _ _ _) (by unfold maxLen; omega) (by omega) (by simp; omega) ?_; intro v' w' hown' hg' hnil'
                 have HD := (D3.alloc hD3 _).grown hg' (by simp; omega) (fun q hq => (own3.lt q hq).1)
                 clear hg' hnil'))
             go_roundw
             case rel =>
              refine ⟨at_ + n3, toks ++ [⟨4, y3, at_, at_ + n3⟩], by go_num, by omega, by simp; omega, ?_, HD, ?_, ?_⟩
              · rw [tokCells_snoc]
                simpa [tokCell] using hown'
              · have := hvn.out
                rw [List.drop_drop] at this
                exact this
              · have e := HR.out
                have hx := HNX.out
                rw [HCT.out] at e hx
                rw [tt_some c t _ _ (by rw [← HC.out]; exact hbk) hx, ← HCT.out, List.drop_drop] at e
                exact e
             case measure => simp [RowKit.intOf]; omega
           · have t3 : ¬ (0 : Int) < (n3 : Int) := by omega
             go_wp2
             have hnx := i4 (by omega) (by omega) (by omega) (by omega)
             have HNX := Lib.hid hnx
             clear hnx
             rw [rounds_succ]
             go_wp2
             go_ret3
             have e := HR.out
             have hx := HNX.out
             rw [HCT.out] at e hx
             rw [tt_none c t _ _ (by rw [← HC.out]; exact hbk) hx] at e
             subst e
             exact ⟨_, rfl, World.ownsRow_nil _ _ _ _, d2.trans (D3.mono d2.size)⟩
  · have hd : s.data.toList.drop at_ = [] := List.drop_eq_nil_of_le (by rw [← Lib.size_eq]; omega)
    have e := HR.out
    rw [hd, tt_nil] at e
    have HE := Lib.hid e
    clear e
    obtain ⟨p, cap, rfl⟩ := row_shape hown
    go_wp2
    go_ret3
    rw [← HE.out]
    exact ⟨_, rfl, own_base hown d2.size, d2.trans (hB.mono d2.size)⟩
end Go.Proofs.Jt
