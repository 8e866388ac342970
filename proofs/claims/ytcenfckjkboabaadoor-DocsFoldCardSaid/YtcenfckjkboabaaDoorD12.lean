/- DocsFold's walk. -/
import Derived.Test.YtcenfckjkboabaaDoorD10
import Derived.Test.YtcenfckjkboabaaDoorA2
import Derived.StillTailTactics
namespace Go.Proofs.Dc
open Go.RowKit Go.Proofs Go.Lib Go.Maps

theorem dir_uri : (dirV uriL).isSome = true := by decide +kernel
theorem open_s {s : ByteArray} (hv : validD s.data.toList = true) (hs : s.size ≤ 300) : openE [] uriL s.data.toList = 0 ∧ openL [] uriL s.data.toList 0 = [⟨uriL, s.data.toList, 0⟩] := by
  have h0 : openE [] uriL s.data.toList = 0 := by
    unfold openE
    rw [dir_uri, if_neg (by decide), if_neg (by decide), if_neg (by decide)]
    unfold mayE
    rw [hv, if_neg (by decide), if_neg (by rw [← Lib.size_eq]; omega)]
  refine ⟨h0, ?_⟩
  unfold openL
  rw [h0]
  rfl
theorem chg_one {t : ByteArray} {v v' : Int} (cs : List Chg) (hv : v < v') : chgE [⟨uriL, t.data.toList, v⟩] uriL v' cs = (afterV t cs).2 ∧
    chgL [⟨uriL, t.data.toList, v⟩] uriL v' cs = if (afterV t cs).2 = 0 then [⟨uriL, (afterV t cs).1.data.toList, v'⟩] else [⟨uriL, t.data.toList, v⟩] := by
  have hg : getD? [⟨uriL, t.data.toList, v⟩] uriL = some ⟨uriL, t.data.toList, v⟩ := rfl
  unfold chgE chgL
  rw [hg]
  simp only
  rw [if_neg (by omega), if_neg (by omega)]
  exact ⟨rfl, rfl⟩
theorem get_one (t : List UInt8) (v : Int) : getD? [⟨uriL, t, v⟩] uriL = some ⟨uriL, t, v⟩ := rfl
def act0 (p : Option Addr) (n c : Nat) (l : List Chg) : Act := ⟨0, ⟨#[]⟩, ⟨#[]⟩, 0, 0, p, n, c, l, 0⟩
theorem acts_one (W : World) (k : Nat) (p : Option Addr) (n c : Nat) (l : List Chg) (h : W.heap[k]? = some (.cells #[.int .i64 0, .string ⟨#[]⟩, .string ⟨#[]⟩, .int .i64 0, .int .i64 0, .slice p n c, .int .u8 0] 29 (0, 0))) (hI : ChgsAt W p l) (hn : n = l.length) (hn2 : n ≤ maxLen) : ActsAt W (some ⟨k, 0, none⟩) [act0 p n c l] := by
  have hk := (Array.getElem?_eq_some_iff.1 h).1
  intro i z hz
  refine ⟨_, rfl, ?_⟩
  match i, hz with
  | 0, hz =>
    obtain rfl := Option.some.inj hz
    refine ⟨?_, ?_, ?_, ?_, ?_, ?_, ?_, hI, hn, hn2, Nat.zero_le _, Nat.zero_le _, Int.le_refl _, show (0 : Int) ≤ 255 by decide, by simpa [Addr.add] using hk⟩ <;> simp [World.cell?, Addr.add, h, act0]
  | i + 1, hz => cases hz
theorem small_act0 {p : Option Addr} {n c : Nat} {l : List Chg} (h : Small [act0 p n c l]) : l.length ≤ 8 ∧ ∀ x ∈ l, x.text.size ≤ 300 := by
  have := h.1 _ (List.mem_singleton.2 rfl)
  exact ⟨this.2.2.1, this.2.2.2⟩
theorem chgs_sub {w : World} {a : Addr} {l : List Chg} (h : ChgsAt w (some a) l) {k : Nat} {x : Chg} (hx : l[k]? = some x) : ChgsAt w (some (a.add (k * 6))) [x] := fun i y hy => by
  match i, hy with
  | 0, hy =>
    obtain rfl := Option.some.inj hy
    obtain ⟨a2, h1, h2⟩ := h k _ hx
    obtain rfl := Option.some.inj h1
    refine ⟨_, rfl, ?_⟩
    have : (a.add (k * 6)).add (0 * 6) = a.add (k * 6) := by simp [Addr.add]
    rw [this]
    exact h2
  | i + 1, hy => cases hy
/-- what the loop knows -/
def FoldR (l : List Chg) (R : ByteArray × Int) (k : Nat) (T : ByteArray) (E : Int) : Prop := (E = 0 ∧ afterV T (l.drop k) = R) ∨ (E ≠ 0 ∧ R.2 = E)
theorem foldR_next {l : List Chg} {R : ByteArray × Int} {k : Nat} {T : ByteArray} {x : Chg} (hx : l[k]? = some x) (h : FoldR l R k T 0) : FoldR l R (k + 1) (if (afterV T [x]).2 = 0 then (afterV T [x]).1 else T) (afterV T [x]).2 := by
  rcases h with ⟨_, h⟩ | ⟨h, _⟩
  · have hk := (List.getElem?_eq_some_iff.1 hx).1
    rw [List.drop_eq_getElem_cons hk, (List.getElem?_eq_some_iff.1 hx).2] at h
    obtain ⟨t, e⟩ : ∃ t, stepV T x = t := ⟨_, rfl⟩
    obtain ⟨t1, t2⟩ := t
    by_cases h0 : t2 = 0
    · subst h0
      rw [afterV_cons_ok e] at h
      rw [afterV_cons_ok e]
      exact .inl ⟨rfl, h⟩
    · rw [afterV_cons_err e h0] at h
      rw [afterV_cons_err e h0]
      exact .inr ⟨h0, by rw [← h]⟩
  · exact absurd rfl h
theorem fold_end {l : List Chg} {R : ByteArray × Int} {k : Nat} {T : ByteArray} {E : Int} (h : FoldR l R k T E) (he : E ≠ 0 ∨ k = l.length) : E = R.2 ∧ (R.2 = 0 → R.1 = T) := by
  rcases h with ⟨rfl, h⟩ | ⟨h0, h⟩
  · rcases he with he | rfl
    · exact absurd rfl he
    · rw [List.drop_length, afterV] at h
      subst h
      exact ⟨rfl, fun _ => rfl⟩
  · exact ⟨h.symm, fun h2 => absurd (h.symm.trans h2) h0⟩
theorem doc_box (w w1 : World) (a b : ByteArray) (v : Int) (hb : Below (w.alloc (.cells #[.string a, .string b, .int .i64 v] 38)).heap.size (w.alloc (.cells #[.string a, .string b, .int .i64 v] 38)) w1) :
    w1.cell? ⟨w.heap.size, 0, none⟩ = some (.string a) ∧ w1.cell? ⟨w.heap.size, 1, none⟩ = some (.string b) ∧ w1.cell? ⟨w.heap.size, 2, none⟩ = some (.int .i64 v) := by
  have h1 : w1.heap[w.heap.size]? = some (.cells #[.string a, .string b, .int .i64 v] 38) := (hb.block _ (by simp)).trans (World.alloc_heap_new w _)
  refine ⟨?_, ?_, ?_⟩ <;> simp [World.cell?, h1]
theorem list_if (e : Int) (A T : ByteArray) (v v' : Int) : (if e = 0 then [(⟨uriL, A.data.toList, v'⟩ : Doc)] else [⟨uriL, T.data.toList, v⟩]) = [⟨uriL, (if e = 0 then A else T).data.toList, if e = 0 then v' else v⟩] := by
  split <;> rfl
set_option maxRecDepth 100000 in
set_option maxHeartbeats 8000000 in
theorem fold_walk (s : ByteArray) (w : World) (hT : Tabs w) (hs : s.size ≤ 140737488355328) (p : Option Addr) (n c : Nat) (hn2 : n ≤ maxLen) (hl : ∃ l : List Chg, n = l.length ∧ n ≤ c ∧ ChgsAt w p l) :
    Calls Tryd.prog 4 #[.string s, .slice p n c] w fun e w' => e = .returned (.bool true) ∧ Below w.heap.size w w' := by
  obtain ⟨l, hn, hnc, hI⟩ := hl
  have hw := works_any
  by_cases hl : (300 : Int) < (s.size : Int)
  · clear hn hI
    go_enter Tryd.func4, Tryd.ntmps4
    go_wp2_with (first
      | (go_at_call 7; refine (hw _ hT).mono ?_; rintro e w1 ⟨rfl, hb1⟩))
    go_ret
    exact ⟨rfl, hb1⟩
  have hval := valid_any s w (by omega) hT.u8
  cases hv : validD s.data.toList with
  | false =>
    rw [hv] at hval
    clear hn hI hv
    go_enter Tryd.func4, Tryd.ntmps4
    go_wp2_with (first
      | (go_at_call 10; refine hval.mono ?_; rintro e w1 ⟨rfl, hb1⟩)
      | (go_at_call 7; refine (hw _ (hT.below hb1)).mono ?_; rintro e w2 ⟨rfl, hb2⟩))
    go_ret
    exact ⟨rfl, hb1.trans (hb2.mono hb1.size)⟩
  | true =>
  rw [hv] at hval
  have hlg : ∀ w1, Below w.heap.size w w1 → Calls Tryd.prog 11 #[.slice (some ⟨w1.heap.size, 0, none⟩) 1 1] (w1.alloc (.cells #[.int .i64 0, .string ⟨#[]⟩, .string ⟨#[]⟩, .int .i64 0, .int .i64 0, .slice p n c, .int .u8 0] 29)) fun e w' => e = .returned (.bool (largeB [act0 p n c l])) ∧ w1.alloc (.cells #[.int .i64 0, .string ⟨#[]⟩, .string ⟨#[]⟩, .int .i64 0, .int .i64 0, .slice p n c, .int .u8 0] 29) = w' := fun w1 hb =>
    large_any _ _ 1 1 [act0 p n c l] rfl (by decide) (acts_one _ _ p n c l (World.alloc_heap_new w1 _) (hI.below (hb.trans ((Below.refl _ _).alloc hb.size _))) hn hn2)
  cases hB : largeB [act0 p n c l] with
  | true =>
    simp only [hB] at hlg
    clear hn hI hv hB
    go_enter Tryd.func4, Tryd.ntmps4
    go_wp2_with (first
      | (go_at_call 10; refine hval.mono ?_; rintro e w1 ⟨rfl, hb1⟩)
      | (go_at_call 11; refine (hlg _ hb1).mono ?_; rintro e w2 ⟨rfl, hww⟩; subst w2; have B2 := hb1.trans ((Below.refl _ _).alloc hb1.size (.cells #[.int .i64 0, .string ⟨#[]⟩, .string ⟨#[]⟩, .int .i64 0, .int .i64 0, .slice p n c, .int .u8 0] 29)))
      | (go_at_call 7; refine (hw _ (hT.below B2)).mono ?_; rintro e w3 ⟨rfl, hb3⟩))
    go_ret
    exact ⟨rfl, B2.trans (hb3.mono B2.size)⟩
  | false =>
  have hsm := small_act0 (small_of hB)
  simp only [hB] at hlg
  obtain ⟨ho1, ho2⟩ := open_s hv (by omega)
  have ho := fun w1 b M h1 h2 h3 => open_any w1 h1 b M [] h2 h3 uriB s 0 (by decide) (by omega) (by decide)
  simp only [show uriB.data.toList = uriL from rfl, ho1, ho2] at ho
  obtain ⟨cg1, cg2⟩ := chg_one (t := s) (v := 0) (v' := 100) l (by decide)
  have hc1 := fun w1 b M h1 h2 h3 h4 => change_any w1 h1 b M [⟨uriL, s.data.toList, 0⟩] h2 h3 uriB 100 p n c l (by decide) hn hn2 h4 (by simp) (fun d hd => by rw [List.mem_singleton.1 hd]; simp only; rw [← Lib.size_eq]; omega) (fun x hx => by have := hsm.2 x hx; omega)
  simp only [show uriB.data.toList = uriL from rfl, cg1, cg2] at hc1
  have hR0 : FoldR l (afterV s l) 0 s 0 := .inl ⟨rfl, rfl⟩
  have hRs := afterV_size s l
  obtain ⟨R, hR⟩ : ∃ R, afterV s l = R := ⟨_, rfl⟩
  rw [hR] at hR0 hRs
  simp only [hR] at hc1
  obtain ⟨LA, hLA⟩ : ∃ L, (if R.2 = 0 then [(⟨uriL, R.1.data.toList, 100⟩ : Doc)] else [⟨uriL, s.data.toList, 0⟩]) = L := ⟨_, rfl⟩
  simp only [hLA] at hc1
  have HLA := Lib.hid hLA
  have HN := Lib.hid hn
  have HI := Lib.hid hI
  have HR := Lib.hid hR0
  have HS := Lib.hid hsm
  have hn8 : n ≤ 8 := by omega
  have hlo := hT.lo
  have hu := uri_any
  clear hn hI hv hB hsm hR0 hR cg1 cg2 ho1 ho2 hLA
  obtain ⟨E1, hE1⟩ : ∃ E, R.2 = E := ⟨_, rfl⟩
  simp only [hE1] at hc1
  have HE1 := Lib.hid hE1
  clear hE1
  have hc2 := change_any
  have hg2 := get_any
  have hud : uriB.data.toList = uriL := rfl
  have HUD := Lib.hid hud
  have HUS : Hid (uriB.size ≤ 1000000) := Lib.hid (by decide)
  clear hud
  generalize uriB = X at *
  go_enter Tryd.func4, Tryd.ntmps4
  go_wp2_with (first
    | (go_at_call 10; refine hval.mono ?_; rintro e w1 ⟨rfl, hb1⟩)
    | (go_at_call 11; refine (hlg _ hb1).mono ?_; rintro e w2 ⟨rfl, hww⟩; subst w2; have B2 := hb1.trans ((Below.refl _ _).alloc hb1.size (.cells #[.int .i64 0, .string ⟨#[]⟩, .string ⟨#[]⟩, .int .i64 0, .int .i64 0, .slice p n c, .int .u8 0] 29)))
    | (have GU := hd1; clear GU; go_at_call 12; refine (new_any _).mono ?_; rintro e w4 ⟨b2, M2, rfl, hd2, hb4, hbb2, hMM2⟩; have hd1' := hd1.below hb4; have B4 := B3.trans (hb4.mono B3.size); have lt1 := hd1.lt; have ne1 := hd1.ne; have ne2 := hd2.ne)
    | (go_at_call 12; refine (new_any _).mono ?_; rintro e w3 ⟨b1, M1, rfl, hd1, hb3, hbb1, hMM1⟩; have B3 := B2.trans (hb3.mono B2.size); have zB2 := B2.size; clear hlg)
    | (go_at_call 14; refine (hu _).mono ?_; rintro e wu ⟨rfl, hw⟩; subst wu)
    | (have GU := hd5; clear GU; go_at_call 13; refine (ho _ b2 M2 (hT.below B5) hd25 (by omega)).mono ?_; rintro e w6 ⟨rfl, hd6, hg6⟩; have B6 := B5.trans (below_gb (by omega) B5.size hg6); have hd16 := hd5.kept hg6 (by intro e; have := Option.some.inj e; omega) (by intro e; have := Option.some.inj e; omega))
    | (go_at_call 13; refine (ho _ b1 M1 (hT.below B4) hd1' (by omega)).mono ?_; rintro e w5 ⟨rfl, hd5, hg5⟩; have B5 := B4.trans (below_gb (by omega) B4.size hg5); have hd25 := hd2.kept hg5 (by intro e; have := Option.some.inj e; omega) (by intro e; have := Option.some.inj e; omega))
    | (go_at_call 15; refine (hc1 _ b1 M1 (hT.below B6) hd16 (by omega) (HI.out.below B6)).mono ?_; rintro e w7 ⟨rfl, hd7, hg7⟩; have B7 := B6.trans (below_gb (by omega) B6.size hg7); have hd27 := hd6.kept hg7 (by intro e; have := Option.some.inj e; omega) (by intro e; have := Option.some.inj e; omega)))
  clear hd1 hd2 hd5 hd6 hd16 hd25 hd1' hb1 hb3 hb4 hg5 hg6 hg7 B2 B3 B4 B5 B6 ho hc1 hval
  go_loopw [8, 9] (fun fv iv wr => ∃ (k : Nat) (T : ByteArray) (E V : Int), iv = .int .i64 k ∧ k ≤ n ∧ fv = .int .i64 E ∧ T.size ≤ 65536 ∧ V ≤ k ∧ FoldR l R k T E ∧ DV wr b1 M1 LA ∧ DV wr b2 M2 [⟨uriL, T.data.toList, V⟩] ∧ Below w.heap.size w wr) (fun _ iv _ => n - (RowKit.intOf iv).toNat)
  case atStart => exact ⟨0, s, 0, 0, rfl, Nat.zero_le _, rfl, by omega, Int.le_refl _, HR.out, hd7, hd27, B7⟩
  case round =>
    obtain ⟨k, T, E, V, rfl, hk, rfl, hTs, hV, hF, hda, hdb, hB⟩ := hrel
    have HF := Lib.hid hF
    clear hF hd7 hd27 B7
    have hzB := hB.size
    by_cases hkn : (k : Int) < (n : Int)
    · by_cases hE : E = 0
      · subst hE
        obtain ⟨x, hx⟩ : ∃ x, l[k]? = some x := ⟨_, List.getElem?_eq_getElem (by have := HN.out; omega)⟩
        obtain ⟨a, rfl, _⟩ := HI.out k x hx
        have hnx := foldR_next hx HF.out
        obtain ⟨g1, g2⟩ := chg_one (t := T) (v := V) (v' := (k : Int) + 1) [x] (by omega)
        rw [list_if] at g2
        have hYs : (if (afterV T [x]).2 = 0 then (afterV T [x]).1 else T).size ≤ 65536 := by
          have := afterV_size T [x]
          split <;> omega
        have hV2 : (if (afterV T [x]).2 = 0 then (k : Int) + 1 else V) ≤ ((k + 1 : Nat) : Int) := by split <;> omega
        have hxm := List.mem_of_getElem? hx
        have hc := fun w1 (hb : Below w.heap.size w w1) h2 c => hc2 w1 (hT.below hb) b2 M2 [⟨uriL, T.data.toList, V⟩] h2 (by omega) X ((k : Int) + 1) (some (a.add (k * 6))) 1 c [x] HUS.out rfl (by decide) (chgs_sub (HI.out.below hb) hx) (by simp) (fun d hd => by rw [List.mem_singleton.1 hd]; simp only; rw [← Lib.size_eq]; omega) (fun y hy => by rw [List.mem_singleton.1 hy]; have := HS.out.2 x hxm; omega)
        simp only [HUD.out, g1, g2] at hc
        clear g1 g2
        generalize (if (afterV T [x]).2 = 0 then (afterV T [x]).1 else T) = Y at *
        generalize (if (afterV T [x]).2 = 0 then (k : Int) + 1 else V) = V2 at *
        generalize (afterV T [x]).2 = E2 at *
        have HX := Lib.hid hnx
        clear hnx hx hxm
        have q1 : IntKind.i64.wrap ((k : Int) + 1) = (k : Int) + 1 := IntWalk.i64_in _ (by omega)
        have q2 : (0 : Int) ≤ (k : Int) + 1 := by omega
        have q3 : ((k : Int) + 1).toNat = k + 1 := by omega
        have q4 : (k : Int) + 1 ≤ (c : Int) := by omega
        go_wp2_with fail
        refine wp_region_still_tail 9 (by kernel_rfl) (by kernel_rfl) ?_
        simp only [List.take_succ_cons, List.take_zero, List.drop_succ_cons, List.drop_zero]
        still_step
        still_call ((hu _).mono fun e w' h => ⟨h.1, h.2.symm⟩)
        repeat still_step
        try refine wpStill_nil ?_
        change wpList _ _ _ _ _ wr.drew
        have bd : Below wr.heap.size wr wr.drew := (Below.refl _ _).drew
        have Bd := hB.trans (bd.mono hzB)
        go_wp2_with (first
          | (go_at_call 15; refine (hc _ Bd (hdb.below bd) _).mono ?_; rintro e w8 ⟨rfl, hd8, hg8⟩; have B8 := Bd.trans (below_gb (by omega) Bd.size hg8); have hda8 := (hda.below bd).kept hg8 (by intro e; have := Option.some.inj e; omega) (by intro e; have := Option.some.inj e; omega)))
        go_roundw
        case rel => exact ⟨k + 1, Y, E2, V2, by go_num, by omega, rfl, hYs, hV2, HX.out, hda8, hd8, B8⟩
        case measure => simp [RowKit.intOf]; omega
      · have hze0 : (E == 0) = false := by simpa using hE
        obtain ⟨hEE, hRT⟩ := fold_end HF.out (.inl hE)
        by_cases hz : E1 = 0
        · exact absurd (by rw [hEE, HE1.out]; exact hz) hE
        · have hLA : LA = [⟨uriL, s.data.toList, 0⟩] := by rw [← HLA.out, if_neg (by rw [HE1.out]; exact hz)]
          have hE0 : E = E1 := by rw [hEE, HE1.out]
          subst hLA hE0
          have hze : (E == 0) = false := by simpa using hz
          clear hEE hRT hz
          have ga := fun w1 (h : DV w1 b1 M1 [⟨uriL, s.data.toList, 0⟩]) => hg2 w1 b1 M1 _ h X (by have := HUS.out; unfold maxLen; omega)
          have gb := fun w1 (h : DV w1 b2 M2 [⟨uriL, T.data.toList, V⟩]) => hg2 w1 b2 M2 _ h X (by have := HUS.out; unfold maxLen; omega)
          simp only [HUD.out, get_one, Option.getD_some, Option.isSome_some, docVal] at ga gb
          have hUX : (⟨uriL.toArray⟩ : ByteArray) = X := (congrArg (fun l : List UInt8 => (⟨l.toArray⟩ : ByteArray)) HUD.out).symm
          simp only [hUX, bytes_eta] at ga gb
          clear hUX
          go_wp2_with (first
            | (go_at_call 14; refine (hu _).mono ?_; rintro e wu ⟨rfl, hw⟩; subst wu)
            | (have GU := hb8; clear GU; go_at_call 16; refine (gb _ (hdb8.below ((Below.refl _ _).alloc (Nat.le_refl _) _))).mono ?_; rintro e w9 ⟨rfl, hb9⟩; have B9 := (B8.trans ((Below.refl _ _).alloc B8.size _)).trans (hb9.mono (Nat.le_trans B8.size (by simp))); obtain ⟨k0, k1, k2⟩ := doc_box _ _ _ _ _ hb9)
            | (go_at_call 16; refine (ga _ hda).mono ?_; rintro e w8 ⟨rfl, hb8⟩; have hdb8 := hdb.below hb8; have B8 := hB.trans (hb8.mono hB.size)))
          have bA : Below w9.heap.size w9 (w9.alloc (.cells #[.string X, .string T, .int .i64 V] 38)) := (Below.refl _ _).alloc (Nat.le_refl _) _
          have B9a := B9.trans (bA.mono B9.size)
          have hlt9 := World.block_lt_of_cell? w9 _ k0
          have kk0 := (bA.cell (p := ⟨w8.heap.size, 0, none⟩) hlt9).trans k0
          have kk1 := (bA.cell (p := ⟨w8.heap.size, 1, none⟩) hlt9).trans k1
          have kk2 := (bA.cell (p := ⟨w8.heap.size, 2, none⟩) hlt9).trans k2
          clear k0 k1 k2 bA
          generalize w9.alloc (.cells #[.string X, .string T, .int .i64 V] 38) = V9 at *
          refine wp_region_still_tail 6 (by kernel_rfl) (by kernel_rfl) ?_
          simp only [List.take_succ_cons, List.take_zero, List.drop_succ_cons, List.drop_zero]
          still_step
          still_call ((hu _).mono fun e w' h => ⟨h.1, h.2.symm⟩)
          repeat still_step
          try refine wpStill_nil ?_
          change wpList _ _ _ _ _ V9.drew
          have B10 := B9a.drew
          go_wp2_with (first
            | (go_at_call 7; refine (hw _ (hT.below B10)).mono ?_; rintro e w10 ⟨rfl, hb10⟩; have B11 := B10.trans (hb10.mono B10.size)))
          go_ret
          exact ⟨rfl, B11⟩
    · have hkE : k = n := by omega
      obtain ⟨hEE, hRT⟩ := fold_end HF.out (.inr (by rw [hkE]; exact HN.out))
      by_cases hz : E1 = 0
      · have hR1 := hRT (by rw [HE1.out]; exact hz)
        have hLA : LA = [⟨uriL, T.data.toList, 100⟩] := by rw [← HLA.out, if_pos (by rw [HE1.out]; exact hz), hR1]
        have hE0 : E = 0 := by rw [hEE, HE1.out]; exact hz
        subst hLA hE0 hz
        clear hEE hRT hR1
        have ga := fun w1 (h : DV w1 b1 M1 [⟨uriL, T.data.toList, 100⟩]) => hg2 w1 b1 M1 _ h X (by have := HUS.out; unfold maxLen; omega)
        have gb := fun w1 (h : DV w1 b2 M2 [⟨uriL, T.data.toList, V⟩]) => hg2 w1 b2 M2 _ h X (by have := HUS.out; unfold maxLen; omega)
        simp only [HUD.out, get_one, Option.getD_some, Option.isSome_some, docVal] at ga gb
        obtain ⟨U, hU⟩ : ∃ U : ByteArray, (⟨uriL.toArray⟩ : ByteArray) = U := ⟨_, rfl⟩
        simp only [hU, bytes_eta] at ga gb
        have hTT : (T.toList == T.toList) = true := by simp
        clear hU
        go_wp2_with (first
          | (go_at_call 14; refine (hu _).mono ?_; rintro e wu ⟨rfl, hw⟩; subst wu)
          | (have GU := hb8; clear GU; go_at_call 16; refine (gb _ (hdb8.below ((Below.refl _ _).alloc (Nat.le_refl _) _))).mono ?_; rintro e w9 ⟨rfl, hb9⟩; have B9 := (B8.trans ((Below.refl _ _).alloc B8.size _)).trans (hb9.mono (Nat.le_trans B8.size (by simp))); obtain ⟨k0, k1, k2⟩ := doc_box _ _ _ _ _ hb9; have hlt9 : w8.heap.size < w9.heap.size := World.block_lt_of_cell? w9 _ k0)
          | (go_at_call 16; refine (ga _ hda).mono ?_; rintro e w8 ⟨rfl, hb8⟩; have hdb8 := hdb.below hb8; have B8 := hB.trans (hb8.mono hB.size))
          | (go_at_call 7; refine (hw _ (hT.below (B9.trans ((Below.refl _ _).alloc B9.size _)))).mono ?_; rintro e w10 ⟨rfl, hb10⟩; have B10 := (B9.trans ((Below.refl _ _).alloc B9.size _)).trans (hb10.mono (Nat.le_trans B9.size (by simp)))))
        go_ret
        exact ⟨rfl, B10⟩
      · have hLA : LA = [⟨uriL, s.data.toList, 0⟩] := by rw [← HLA.out, if_neg (by rw [HE1.out]; exact hz)]
        have hE0 : E = E1 := by rw [hEE, HE1.out]
        subst hLA hE0
        have hze : (E == 0) = false := by simpa using hz
        clear hEE hRT hz
        have ga := fun w1 (h : DV w1 b1 M1 [⟨uriL, s.data.toList, 0⟩]) => hg2 w1 b1 M1 _ h X (by have := HUS.out; unfold maxLen; omega)
        have gb := fun w1 (h : DV w1 b2 M2 [⟨uriL, T.data.toList, V⟩]) => hg2 w1 b2 M2 _ h X (by have := HUS.out; unfold maxLen; omega)
        simp only [HUD.out, get_one, Option.getD_some, Option.isSome_some, docVal] at ga gb
        have hUX : (⟨uriL.toArray⟩ : ByteArray) = X := (congrArg (fun l : List UInt8 => (⟨l.toArray⟩ : ByteArray)) HUD.out).symm
        simp only [hUX, bytes_eta] at ga gb
        clear hUX
        go_wp2_with (first
          | (go_at_call 14; refine (hu _).mono ?_; rintro e wu ⟨rfl, hw⟩; subst wu)
          | (have GU := hb8; clear GU; go_at_call 16; refine (gb _ (hdb8.below ((Below.refl _ _).alloc (Nat.le_refl _) _))).mono ?_; rintro e w9 ⟨rfl, hb9⟩; have B9 := (B8.trans ((Below.refl _ _).alloc B8.size _)).trans (hb9.mono (Nat.le_trans B8.size (by simp))); obtain ⟨k0, k1, k2⟩ := doc_box _ _ _ _ _ hb9)
          | (go_at_call 16; refine (ga _ hda).mono ?_; rintro e w8 ⟨rfl, hb8⟩; have hdb8 := hdb.below hb8; have B8 := hB.trans (hb8.mono hB.size)))
        have bA : Below w9.heap.size w9 (w9.alloc (.cells #[.string X, .string T, .int .i64 V] 38)) := (Below.refl _ _).alloc (Nat.le_refl _) _
        have B9a := B9.trans (bA.mono B9.size)
        have hlt9 := World.block_lt_of_cell? w9 _ k0
        have kk0 := (bA.cell (p := ⟨w8.heap.size, 0, none⟩) hlt9).trans k0
        have kk1 := (bA.cell (p := ⟨w8.heap.size, 1, none⟩) hlt9).trans k1
        have kk2 := (bA.cell (p := ⟨w8.heap.size, 2, none⟩) hlt9).trans k2
        clear k0 k1 k2 bA
        generalize w9.alloc (.cells #[.string X, .string T, .int .i64 V] 38) = V9 at *
        refine wp_region_still_tail 6 (by kernel_rfl) (by kernel_rfl) ?_
        simp only [List.take_succ_cons, List.take_zero, List.drop_succ_cons, List.drop_zero]
        still_step
        still_call ((hu _).mono fun e w' h => ⟨h.1, h.2.symm⟩)
        repeat still_step
        try refine wpStill_nil ?_
        change wpList _ _ _ _ _ V9.drew
        have B10 := B9a.drew
        go_wp2_with (first
          | (go_at_call 7; refine (hw _ (hT.below B10)).mono ?_; rintro e w10 ⟨rfl, hb10⟩; have B11 := B10.trans (hb10.mono B10.size)))
        go_ret
        exact ⟨rfl, B11⟩
end Go.Proofs.Dc
