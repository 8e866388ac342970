/- Merged texts: V24, V25. -/
import Derived.Test.YtaiaiiepbpbmmaaGreatDoorV23
import Derived.Laws.ResultCell
/- V24: Parse: words in memory; deep. -/
namespace Go.Proofs.Jt
open Go.RowKit Go.Maps Go.Lib Go.Proofs.Utf Go.Proofs

theorem word_is {l : List UInt8} {x : List UInt8} {m : Nat} (h : nextL l = some (2, x, m)) : x = wNull ∨ x = wFalse ∨ x = wTrue := by
  cases l with
  | nil => cases h
  | cons c t =>
    rw [nextL_cons] at h
    split at h
    · cases h
    · split at h
      · obtain ⟨q, hq, e⟩ := Option.map_eq_some_iff.1 h
        cases e
      · split at h
        · rename_i hw
          cases h
          have hd : ∀ n, wordN (c :: t) = n → 0 < n → isWord ((c :: t).take n) = true := fun n hn h0 => by
            unfold wordN at hn
            split at hn
            · rename_i hi
              rw [hn] at hi
              exact hi
            · omega
          have := hd _ rfl hw
          unfold isWord at this
          rw [decide_eq_true_eq] at this
          rcases this with h | h | h
          · exact .inr (.inr h)
          · exact .inr (.inl h)
          · exact .inl h
        · split at h
          · cases h
          · cases h
/-- what words of a text are -/
def WK (K : List KT) : Prop := ∀ k x, (k, x) ∈ K → k ≤ 4 ∧ (k = 2 → x = wNull ∨ x = wFalse ∨ x = wTrue) ∧ x.length ≤ 16777216
theorem next_kind {l : List UInt8} {k : Nat} {x : List UInt8} {m : Nat} (h : nextL l = some (k, x, m)) : k ≤ 4 := by
  cases l with
  | nil => cases h
  | cons c t =>
    rw [nextL_cons] at h
    split at h
    · cases h; omega
    · split at h
      · obtain ⟨q, hq, e⟩ := Option.map_eq_some_iff.1 h
        cases e; omega
      · split at h
        · cases h; omega
        · split at h
          · cases h; omega
          · cases h
theorem Lx.wk {l : List UInt8} {a : Nat} {T : List Tok} (h : Lx l a T) (hl : l.length ≤ 16777216) : WK (kt T) := by
  induction h with
  | nil a => intro k x hk; cases hk
  | blank h _ ih => exact ih (by rw [List.length_cons] at hl; omega)
  | @tok c t a T k x m h h1 h2 ih =>
    intro k' x' hk
    rcases List.mem_cons.1 hk with e | hk
    · cases e
      have hm := nextL_le _ _ h1
      have hx := next_len h1
      simp only at hm
      exact ⟨next_kind h1, fun e => by rw [show (Tok.mk k x a (a + m)).kind = k from rfl] at e; subst e; exact word_is h1, by show x.length ≤ _; omega⟩
    · exact ih (by rw [List.length_drop]; omega) k' x' hk
theorem tokP_row {w : World} {B R : Nat} {v : Value} {T : List Tok} (h : w.ownsRow B 222 4 v T.length (tokCells T)) (hR : w.heap.size ≤ R) (hw : WK (kt T)) : ∃ p c, v = .slice p (kt T).length c ∧ (kt T).length ≤ c ∧ c ≤ maxLen ∧ TokP w R p (kt T) := by
  have hl : (kt T).length = T.length := List.length_map ..
  rcases h.2 with ⟨rfl, h2⟩ | ⟨g, cap, cur, rfl, h2, h3, h4, h5, h6, h7⟩
  · have e : T = [] := List.eq_nil_of_length_eq_zero h2
    subst e
    exact ⟨none, 0, rfl, Nat.le_refl _, Nat.zero_le _, fun i k x hk => by cases hk⟩
  · refine ⟨some ⟨g, 0, none⟩, cap, by rw [hl], by rw [hl]; exact h4, h5, fun i k x hk => ?_⟩
    unfold kt at hk
    rw [List.getElem?_map] at hk
    cases ht : T[i]? with
    | none => rw [ht] at hk; cases hk
    | some j =>
      rw [ht] at hk
      obtain ⟨rfl, rfl⟩ : j.kind = k ∧ j.text = x := by have := Option.some.inj hk; injection this with a b; exact ⟨a, b⟩
      have hm := hw j.kind j.text (List.mem_map.2 ⟨j, List.mem_of_getElem? ht, rfl⟩)
      obtain ⟨g', cap', e1, _, hc⟩ := toks_at h (by have := (List.getElem?_eq_some_iff.1 ht).1; omega)
      injection e1 with e1
      injection e1 with e1
      injection e1 with e1
      subst e1
      obtain ⟨c0, c1, c2, c3, hgl⟩ := hc i j ht
      refine ⟨g, 0, rfl, by omega, by rw [Nat.zero_add]; exact c0, by rw [Nat.zero_add]; exact c1, hm.2.2, hm.1, hm.2.1, _, _, by rw [Nat.zero_add]; exact c2, by rw [Nat.zero_add]; exact c3⟩
/-- how deep, from a place on -/
theorem open_big : ∀ (K : List KT) (n h : Nat), 64 < h → 64 < openN K n h
  | K, n, h, hh => Nat.lt_of_lt_of_le hh (openN_le K n h)
set_option maxRecDepth 100000 in
set_option maxHeartbeats 4000000 in
theorem deep_any {w : World} {p : Option Addr} {c R : Nat} {K : List KT} (h : TokP w R p K) (_hc : K.length ≤ c) (hl : K.length ≤ 100000000) :
    Calls Tryz.prog 111 #[.slice p K.length c] w fun e w' => e = .returned (.bool (decide (64 < openN K 0 0))) ∧ Below w.heap.size w w' := by
  obtain ⟨D, hD⟩ : ∃ D, decide (64 < openN K 0 0) = D := ⟨_, rfl⟩
  rw [hD]
  have HD := Lib.hid hD
  have HT := Lib.hid h
  clear h hD
  go_enter Tryz.func111, Tryz.ntmps111
  go_wp2_with fail
  go_loopw [3, 8] (fun nv iv wr => ∃ (j n h : Nat), iv = .int .i64 j ∧ j ≤ K.length ∧ nv = .int .i64 n ∧ n ≤ h ∧ h ≤ 64 ∧ decide (64 < openN (K.drop j) n h) = D ∧ Below w.heap.size w wr) (fun _ iv _ => K.length - (RowKit.intOf iv).toNat)
  case atStart => exact ⟨0, 0, 0, rfl, Nat.zero_le _, rfl, Nat.le_refl _, by omega, by rw [List.drop_zero]; exact HD.out, Below.refl _ _⟩
  case round =>
    obtain ⟨j, n, h, rfl, hj, rfl, hn, hh, hO, hB⟩ := hrel
    by_cases hjn : (j : Int) < (K.length : Int)
    · obtain ⟨y, hy⟩ : ∃ y, K[j]? = some y := ⟨_, List.getElem?_eq_getElem (by omega)⟩
      obtain ⟨k, x⟩ := y
      obtain ⟨b, o, rfl, -, k0, k1, hx, hk4, -, u, v, k2, k3⟩ := HT.out j k x hy
      have e0 := hB.cell (p := ⟨b, o + j * 4, none⟩) (cell_blk k0)
      have e1 := hB.cell (p := ⟨b, o + j * 4 + 1, none⟩) (cell_blk k1)
      have e2 := hB.cell (p := ⟨b, o + j * 4 + 2, none⟩) (cell_blk k2)
      have e3 := hB.cell (p := ⟨b, o + j * 4 + 3, none⟩) (cell_blk k3)
      rw [k0] at e0
      rw [k1] at e1
      rw [k2] at e2
      rw [k3] at e3
      obtain ⟨X, hX⟩ : ∃ X : ByteArray, (⟨x.toArray⟩ : ByteArray) = X := ⟨_, rfl⟩
      rw [hX] at e1
      rw [drop_cons hy, openN_cons] at hO
      have hBa := hB.alloc hB.size (.cells #[.int .i64 k, .string X, .int .i64 u, .int .i64 v] 222)
      have HBA := Lib.hid hBa
      have hXl : X.toList = x := by rw [ByteArray.toList_eq, ← hX]
      clear k0 k1 k2 k3 hBa hx hX
      by_cases hk : k = 1
      · subst hk
        by_cases ho : x = [91] ∨ x = [123]
        · rw [if_pos ⟨rfl, ho⟩] at hO
          have HO := Lib.hid hO
          clear hO
          by_cases hbig : 64 < n + 1
          · have hDt : D = true := by rw [← HO.out]; exact decide_eq_true (open_big _ _ _ (by omega))
            have HDt := Lib.hid hDt
            clear hDt
            rcases ho with rfl | rfl
            all_goals
              go_wp2_with fail
              go_ret
              exact ⟨by rw [HDt.out]; rfl, HBA.out⟩
          · rcases ho with rfl | rfl
            all_goals
              go_wp2_with fail
              go_roundw
              case rel => exact ⟨j + 1, n + 1, max (n + 1) h, by go_num, by omega, by first | rfl | go_num, by omega, by omega, HO.out, HBA.out⟩
              case measure => simp [RowKit.intOf]; omega
        · rw [if_neg (fun e => ho e.2)] at hO
          have f1 : ¬ X.toList = [91] := fun e => ho (.inl (by rw [← hXl, e]))
          have f2 : ¬ X.toList = [123] := fun e => ho (.inr (by rw [← hXl, e]))
          have f3 : (X.toList == [91]) = false := beq_eq_false_iff_ne.2 f1
          have f4 : (X.toList == [123]) = false := beq_eq_false_iff_ne.2 f2
          by_cases hcl : x = [93] ∨ x = [125]
          · rw [if_pos ⟨rfl, hcl⟩] at hO
            have HO := Lib.hid hO
            clear hO f1 f2 f3 f4 ho
            have hmx : max (n - 1) h = h := by omega
            rcases hcl with rfl | rfl
            all_goals
              clear hmx
              go_wp2_with fail
              go_roundw
              case rel => exact ⟨j + 1, n - 1, max (n - 1) h, by go_num, by omega, by first | rfl | go_num, by omega, by omega, HO.out, HBA.out⟩
              case measure => simp [RowKit.intOf]; omega
          · rw [if_neg (fun e => hcl e.2)] at hO
            have f5 : ¬ X.toList = [93] := fun e => hcl (.inl (by rw [← hXl, e]))
            have f6 : ¬ X.toList = [125] := fun e => hcl (.inr (by rw [← hXl, e]))
            have f7 : (X.toList == [93]) = false := beq_eq_false_iff_ne.2 f5
            have f8 : (X.toList == [125]) = false := beq_eq_false_iff_ne.2 f6
            have HO := Lib.hid hO
            clear hO hcl ho hXl
            go_wp2_with fail
            go_roundw
            case rel => exact ⟨j + 1, n, max n h, by go_num, by omega, rfl, by omega, by omega, HO.out, HBA.out⟩
            case measure => simp [RowKit.intOf]; omega
      · have hnk : ¬ (k = 1 ∧ (x = [91] ∨ x = [123])) := fun e => hk e.1
        have hnk2 : ¬ (k = 1 ∧ (x = [93] ∨ x = [125])) := fun e => hk e.1
        rw [if_neg hnk, if_neg hnk2] at hO
        have n1 : ((k : Int) != 1) = true := by simp; omega
        have HO := Lib.hid hO
        clear hO hnk hnk2 hXl hk
        go_wp2_with fail
        go_roundw
        case rel => exact ⟨j + 1, n, max n h, by go_num, by omega, rfl, by omega, by omega, HO.out, HBA.out⟩
        case measure => simp [RowKit.intOf]; omega
    · go_wp2_with fail
      go_ret
      have : j = K.length := by omega
      subst this
      rw [List.drop_length, openN] at hO
      exact ⟨by rw [← hO, decide_eq_false (by omega)]; rfl, hB⟩
end Go.Proofs.Jt
/- V25: Parse. -/
namespace Go.Proofs.Jt
open Go.RowKit Go.Maps Go.Lib Go.Proofs.Utf Go.Proofs

theorem ret_val2 {fn : Func} {p u : Tmp} (h : fn.results = #[.cell p 25, .tmp u]) {tmps : Array Value} {w : World} {g : Nat} (hp : tmps.getD p undef = .pointer (some ⟨g, 0, none⟩)) {v0 v1 v2 v3 e : Value} (he : tmps.getD u undef = e) (hg : w.heap[g]? = some (.cells #[v0, v1, v2, v3] 25 (0, 0))) :
    (results fn tmps).run Tryz.prog w = .ok (.tuple #[.agg #[v0, v1, v2, v3], e]) w := by
  rw [results_cell_tmp h, hp, he]
  have hl := run_loadVar_row (P := Tryz.prog) w g 25 25 #[v0, v1, v2, v3] (0, 0) _ hg Tryz.underlying25 rfl (by kernel_rfl)
  simp only [asAddr, Sem.run_pure, Result.andThen_ok, hl]
/-- a value and an error, given back -/
structure PP (w : World) (l : List UInt8) (e : Ending) (w' : World) : Prop where
  ret : ∃ kp kc ip ic, e = .returned (.tuple #[jval (parV l).1 kp kc ip ic, .int .i64 ((parV l).2 : Nat)]) ∧ KP w' (w.heap.size ≤ ·) (parV l).1 kp kc ip ic ∧ (parV l).1.str.length ≤ maxLen
  below : Below w.heap.size w w'
theorem PP.zero {w w' : World} {l : List UInt8} {n : Nat} (h : parV l = (jn 0, n)) (hb : Below w.heap.size w w') {e : Ending} (he : e = .returned (.tuple #[.agg #[.int .i64 0, .string ⟨#[]⟩, .slice none 0 0, .slice none 0 0], .int .i64 (n : Nat)])) : PP w l e w' := by
  refine ⟨⟨none, 0, none, 0, ?_, ?_, ?_⟩, hb⟩
  · rw [h]; exact he
  · rw [h]; exact KP.leaf _ _ _ _
  · rw [h]; exact Nat.zero_le _
theorem below_gbz {w w' W : World} {z : Nat} (hb : Below w.heap.size w w') (hz : w.heap.size ≤ z) (hg : w'.grownBy W (some z)) : Below w.heap.size w W :=
  hb.grown hg hb.size fun k e => by cases e; exact hz
theorem gb_to_below {w w' : World} {B r : Nat} (h : w.grownBy w' (some r)) (hB : B ≤ r) (hs : B ≤ w.heap.size) : Below B w w' := ⟨h.os, h.tape, h.output, h.size, fun k hk => h.block k (by omega) (fun e => by have := Option.some.inj e; omega)⟩
theorem TokP.up {w : World} {R R' : Nat} {p : Option Addr} {K : List KT} (h : TokP w R p K) (hR : R ≤ R') : TokP w R' p K := fun i k x hk => by
  obtain ⟨b, o, h1, h2, h3⟩ := h i k x hk
  exact ⟨b, o, h1, Nat.lt_of_lt_of_le h2 hR, h3⟩
theorem val_start {w2 w3 : World} {p : Option Addr} {c : Nat} {K : List KT} {bad tw : Bool} (h : TokP w2 w2.heap.size p K) (hc : K.length ≤ c) (hm : c ≤ maxLen) (hb : Below w2.heap.size w2 w3) : RD (w3.alloc (.cells #[.slice p K.length c, .bool bad, .bool tw] 170)) w3.heap.size K bad tw :=
  ⟨p, c, World.alloc_heap_new w3 _, hc, hm, ((h.kept (w' := w3) fun b _hb2 hl => hb.block b hl).up hb.size).kept fun b _hb2 hl => ((Below.refl w3.heap.size w3).alloc (Nat.le_refl _) _).block b hl⟩
theorem parse_below {w w3 w5 : World} {r : Obj} {x : Obj} (h : Below w.heap.size w w3) (hg : (w3.alloc r).grownBy w5 (some w3.heap.size)) : Below w.heap.size w (w5.alloc x) := by
  have h1 := h.alloc h.size r
  have h2 := h1.trans (gb_to_below hg h.size h1.size)
  exact h2.alloc h2.size x
theorem parse_good {w w3 w5 V : World} {l : List UInt8} {r : Obj} {v : JV} {tw : Bool} {o : Option (JV × List KT)} {vk : Int} {vS : ByteArray} {vp vp' : Option Addr} {vn vc vn' vc' : Nat} (hp : parV l = (v, 0)) (ho : o = some (v, [])) (hvp : VP (w3.alloc r) w3.heap.size tw o vk vS vp vn vc vp' vn' vc' w5) (h : Below w.heap.size w w3)
    (hg : (w5.alloc (.cells #[.int .i64 vk, .string vS, .slice vp vn vc, .slice vp' vn' vc'] 25)).grownBy V (some w.heap.size)) : PP w l (.returned (.tuple #[.agg #[.int .i64 vk, .string vS, .slice vp vn vc, .slice vp' vn' vc'], .int .i64 0])) V := by
  obtain ⟨q1, q2, q3, q4⟩ := hvp.good v [] ho
  refine ⟨⟨vp, vc, vp', vc', ?_, ?_, ?_⟩, below_gbz (parse_below h hvp.gb) (Nat.le_refl _) hg⟩
  · rw [hp, q2]; rfl
  · rw [hp]
    have ha := World.grownBy_alloc w5 (.cells #[.int .i64 vk, .string vS, .slice vp vn vc, .slice vp' vn' vc'] 25) none
    have hs := h.size
    refine q3.keep (Nat.le_trans ha.size hg.size) (fun b hb hl => (hg.block b (Nat.lt_of_lt_of_le hl ha.size) (fun e => ?_)).trans (ha.block b hl (by simp))) fun b hb _ => ?_
    · have := Option.some.inj e
      rw [alloc_len] at hb
      omega
    · rw [alloc_len] at hb
      omega
  · rw [hp]; exact q4
set_option maxRecDepth 100000 in
set_option maxHeartbeats 4000000 in
theorem parse_any (s : ByteArray) (w : World) (hT : Tabs w) (hs : s.size ≤ 16777216) : Calls Tryz.prog 52 #[.string s] w (PP w s.data.toList) := by
  obtain ⟨W, hW⟩ : ∃ W, w.alloc (.cells #[.int .i64 0, .string ⟨#[]⟩, .slice none 0 0, .slice none 0 0] 25) = W := ⟨_, rfl⟩
  have bW : Below w.heap.size w W := by rw [← hW]; exact (Below.refl _ _).alloc (Nat.le_refl _) _
  have hz0 : JBox W w.heap.size := by rw [← hW]; exact JBox.alloc _ _ _ _ _
  have htk := tokens_any s W (hT.below bW) hs
  have hsl : s.data.toList.length = s.size := Array.length_toList
  obtain ⟨l, hl⟩ : ∃ l, s.data.toList = l := ⟨_, rfl⟩
  rw [hl] at htk hsl ⊢
  have hpar : parV l = if (toksL l).2.2 ≠ 0 then (jn 0, (toksL l).2.2) else if 64 < openN (kt (toksL l).1) 0 0 then (jn 0, 3) else match valP (2 * (toksL l).1.length + 1) (kt (toksL l).1) with
    | some (v, []) => if v.dup then (jn 0, 13) else (v, 0)
    | _ => (jn 0, 4) := rfl
  have hlx := @toks_lx l
  obtain ⟨T, A, E, hTK⟩ : ∃ T A E, toksL l = (T, A, E) := ⟨_, _, _, rfl⟩
  rw [hTK] at htk hpar hlx
  dsimp only at htk hpar hlx
  have HB0 := Lib.hid bW
  have HZ := Lib.hid hz0
  have HP := Lib.hid hpar
  have HSL := Lib.hid hsl
  clear hT hsl bW hz0 hl hTK
  by_cases hE : E = 0
  · obtain ⟨hv, hx⟩ := hlx hE
    have hwk : WK (kt T) := hx.wk (by have := HSL.out; omega)
    have hkw := hx.kw_le
    have hktl : (kt T).length = T.length := List.length_map ..
    have hTl : T.length ≤ 33554432 := by
      have h1 : ∀ K : List KT, K.length ≤ kw K := fun K => by
        induction K with
        | nil => exact Nat.le_refl _
        | cons y t ih => obtain ⟨k, x⟩ := y; simp only [List.length_cons, kw]; omega
      have := h1 (kt T)
      have := HSL.out
      omega
    have HWK := Lib.hid hwk
    have HKT := Lib.hid hktl
    have HKW : Hid (kw (kt T) ≤ 100000000) := Lib.hid (by have := HSL.out; omega)
    have HKL : Hid ((kt T).length ≤ 100000000) := Lib.hid (by omega)
    rw [if_neg (fun h => h hE)] at hpar
    subst hE
    clear hlx hv hx hwk hkw hktl hTl
    by_cases hd : 64 < openN (kt T) 0 0
    · rw [if_pos hd] at hpar
      have HPE := Lib.hid hpar
      have HD := Lib.hid (decide_eq_true hd)
      clear hd hpar HP
      go_enter Tryz.func52, Tryz.ntmps52
      go_wp2_with (first
        | (go_at_call 110; refine htk.mono ?_; rintro e w2 ⟨tv, rfl, hrow, hb2⟩
           obtain ⟨p, c, rfl, hc, hcm, hTP⟩ := tokP_row hrow (Nat.le_refl _) HWK.out
           have hdp := deep_any hTP hc HKL.out
           rw [HD.out] at hdp
           have HTP := Lib.hid hTP
           have HC := Lib.hid (And.intro hc hcm)
           clear hTP hc hcm hrow htk)
        | (go_at_call 111; refine hdp.mono ?_; rintro e w3 ⟨rfl, hb3⟩
           have hbx : JBox w3 w.heap.size := (HZ.out.same (hb2.block _ HZ.out.lt)).same (hb3.block _ (Nat.lt_of_lt_of_le HZ.out.lt hb2.size))
           have HB := Lib.hid hbx
           have HB3 := Lib.hid (hb2.trans (hb3.mono hb2.size))
           have HVAL := Lib.hid (val_start (tw := false) (bad := false) (HTP.out) HC.out.1 HC.out.2 hb3)
           clear hbx hdp)
        | (refine store_val rfl (.tmp 2) (.tmp 21) rfl w.heap.size rfl (.int .i64 0) (.string ⟨#[]⟩) (.slice none 0 0) (.slice none 0 0) rfl rfl HB.out (fun V hV hgV _ => ?_)))
      refine bodyPost_ret (ret_val2 Tryz.results52 rfl rfl hV) rfl (PP.zero HPE.out ?_ rfl)
      exact below_gbz (HB0.out.trans (HB3.out.mono HB0.out.size)) (Nat.le_refl _) hgV
    · rw [if_neg hd] at hpar
      have HD := Lib.hid (decide_eq_false hd)
      clear hd HP
      cases ho : valP (2 * T.length + 1) (kt T) with
      | none =>
        rw [ho] at hpar
        have HPE := Lib.hid hpar
        have HVN := Lib.hid ho
        clear ho hpar
        go_enter Tryz.func52, Tryz.ntmps52
        go_wp2_with (first
          | (go_at_call 110; refine htk.mono ?_; rintro e w2 ⟨tv, rfl, hrow, hb2⟩
             obtain ⟨p, c, rfl, hc, hcm, hTP⟩ := tokP_row hrow (Nat.le_refl _) HWK.out
             have hdp := deep_any hTP hc HKL.out
             rw [HD.out] at hdp
             have HTP := Lib.hid hTP
             have HC := Lib.hid (And.intro hc hcm)
             clear hTP hc hcm hrow htk)
          | (go_at_call 111; refine hdp.mono ?_; rintro e w3 ⟨rfl, hb3⟩
             have hbx : JBox w3 w.heap.size := (HZ.out.same (hb2.block _ HZ.out.lt)).same (hb3.block _ (Nat.lt_of_lt_of_le HZ.out.lt hb2.size))
             have HB := Lib.hid hbx
             have HB3 := Lib.hid (hb2.trans (hb3.mono hb2.size))
             have HVAL := Lib.hid (val_start (tw := false) (bad := false) (HTP.out) HC.out.1 HC.out.2 hb3)
             clear hbx hdp)
          | (go_at_call 112; refine (value_any (2 * T.length + 1) _ w3.heap.size (kt T) false HVAL.out HKW.out (by have := HKT.out; omega)).mono ?_
             rintro e w5 ⟨vk, vS, vp, vn, vc, vp', vn', vc', rfl, hvp⟩
             obtain ⟨K5, tw5, hrd⟩ := hvp.bad HVN.out
             obtain ⟨p5, cc5, q1, q2, q3, q4⟩ := hrd.below ((Below.refl w5.heap.size w5).alloc (Nat.le_refl _) (.cells #[.int .i64 vk, .string vS, .slice vp vn vc, .slice vp' vn' vc'] 25))
             obtain ⟨d0, d1, d2, df⟩ := cells3 q1
             have hb4 := HB.out
             have hbz : JBox w5 w.heap.size := (JBox.same (w := w3) HB.out (((Below.refl w3.heap.size w3).alloc (Nat.le_refl _) _).block _ HB.out.lt)).same (hvp.gb.block _ (by have := HB.out.lt; simp; omega) (fun e => by have := Option.some.inj e; have := HB.out.lt; omega))
             have hbz2 : JBox (w5.alloc (.cells #[.int .i64 vk, .string vS, .slice vp vn vc, .slice vp' vn' vc'] 25)) w.heap.size := hbz.same (((Below.refl w5.heap.size w5).alloc (Nat.le_refl _) _).block _ hbz.lt)
             have HBZ := Lib.hid hbz2
             have HVP := Lib.hid hvp
             clear hbz hbz2 q1 q2 q3 q4 hb4 df hvp)
          | (refine store_val rfl (.tmp 2) (.tmp 40) rfl w.heap.size rfl (.int .i64 0) (.string ⟨#[]⟩) (.slice none 0 0) (.slice none 0 0) rfl rfl HBZ.out (fun V hV hgV _ => ?_)))
        refine bodyPost_ret (ret_val2 Tryz.results52 rfl rfl hV) rfl (PP.zero HPE.out ?_ rfl)
        exact below_gbz (parse_below (HB0.out.trans (HB3.out.mono HB0.out.size)) HVP.out.gb) (Nat.le_refl _) hgV
      | some y =>
        obtain ⟨v, r⟩ := y
        cases r with
        | cons y1 t1 =>
          rw [ho] at hpar
          have HPE := Lib.hid hpar
          have HVN := Lib.hid ho
          clear ho hpar
          go_enter Tryz.func52, Tryz.ntmps52
          go_wp2_with (first
            | (go_at_call 110; refine htk.mono ?_; rintro e w2 ⟨tv, rfl, hrow, hb2⟩
               obtain ⟨p, c, rfl, hc, hcm, hTP⟩ := tokP_row hrow (Nat.le_refl _) HWK.out
               have hdp := deep_any hTP hc HKL.out
               rw [HD.out] at hdp
               have HTP := Lib.hid hTP
               have HC := Lib.hid (And.intro hc hcm)
               clear hTP hc hcm hrow htk)
            | (go_at_call 111; refine hdp.mono ?_; rintro e w3 ⟨rfl, hb3⟩
               have hbx : JBox w3 w.heap.size := (HZ.out.same (hb2.block _ HZ.out.lt)).same (hb3.block _ (Nat.lt_of_lt_of_le HZ.out.lt hb2.size))
               have HB := Lib.hid hbx
               have HB3 := Lib.hid (hb2.trans (hb3.mono hb2.size))
               have HVAL := Lib.hid (val_start (tw := false) (bad := false) (HTP.out) HC.out.1 HC.out.2 hb3)
               clear hbx hdp)
            | (go_at_call 112; refine (value_any (2 * T.length + 1) _ w3.heap.size (kt T) false HVAL.out HKW.out (by have := HKT.out; omega)).mono ?_
               rintro e w5 ⟨vk, vS, vp, vn, vc, vp', vn', vc', rfl, hvp⟩
               have hrd := (hvp.good _ _ HVN.out).1
               obtain ⟨p5, cc5, q1, q2, q3, q4⟩ := hrd.below ((Below.refl w5.heap.size w5).alloc (Nat.le_refl _) (.cells #[.int .i64 vk, .string vS, .slice vp vn vc, .slice vp' vn' vc'] 25))
               obtain ⟨d0, d1, d2, df⟩ := cells3 q1
               have hb4 := HB.out
               rw [List.length_cons] at d0
               have hbz : JBox w5 w.heap.size := (JBox.same (w := w3) HB.out (((Below.refl w3.heap.size w3).alloc (Nat.le_refl _) _).block _ HB.out.lt)).same (hvp.gb.block _ (by have := HB.out.lt; simp; omega) (fun e => by have := Option.some.inj e; have := HB.out.lt; omega))
               have hbz2 : JBox (w5.alloc (.cells #[.int .i64 vk, .string vS, .slice vp vn vc, .slice vp' vn' vc'] 25)) w.heap.size := hbz.same (((Below.refl w5.heap.size w5).alloc (Nat.le_refl _) _).block _ hbz.lt)
               have HBZ := Lib.hid hbz2
               have HVP := Lib.hid hvp
               clear hbz hbz2 q1 q2 q3 q4 hb4 df hvp)
            | (refine store_val rfl (.tmp 2) (.tmp 40) rfl w.heap.size rfl (.int .i64 0) (.string ⟨#[]⟩) (.slice none 0 0) (.slice none 0 0) rfl rfl HBZ.out (fun V hV hgV _ => ?_)))
          refine bodyPost_ret (ret_val2 Tryz.results52 rfl rfl hV) rfl (PP.zero HPE.out ?_ rfl)
          exact below_gbz (parse_below (HB0.out.trans (HB3.out.mono HB0.out.size)) HVP.out.gb) (Nat.le_refl _) hgV
        | nil =>
          rw [ho] at hpar
          dsimp only at hpar
          cases hdu : v.dup with
          | true =>
            rw [hdu, if_pos rfl] at hpar
            have HPE := Lib.hid hpar
            have HVN := Lib.hid ho
            have HDU := Lib.hid hdu
            clear ho hpar hdu
            go_enter Tryz.func52, Tryz.ntmps52
            go_wp2_with (first
              | (go_at_call 110; refine htk.mono ?_; rintro e w2 ⟨tv, rfl, hrow, hb2⟩
                 obtain ⟨p, c, rfl, hc, hcm, hTP⟩ := tokP_row hrow (Nat.le_refl _) HWK.out
                 have hdp := deep_any hTP hc HKL.out
                 rw [HD.out] at hdp
                 have HTP := Lib.hid hTP
                 have HC := Lib.hid (And.intro hc hcm)
                 clear hTP hc hcm hrow htk)
              | (go_at_call 111; refine hdp.mono ?_; rintro e w3 ⟨rfl, hb3⟩
                 have hbx : JBox w3 w.heap.size := (HZ.out.same (hb2.block _ HZ.out.lt)).same (hb3.block _ (Nat.lt_of_lt_of_le HZ.out.lt hb2.size))
                 have HB := Lib.hid hbx
                 have HB3 := Lib.hid (hb2.trans (hb3.mono hb2.size))
                 have HVAL := Lib.hid (val_start (tw := false) (bad := false) (HTP.out) HC.out.1 HC.out.2 hb3)
                 clear hbx hdp)
              | (go_at_call 112; refine (value_any (2 * T.length + 1) _ w3.heap.size (kt T) false HVAL.out HKW.out (by have := HKT.out; omega)).mono ?_
                 rintro e w5 ⟨vk, vS, vp, vn, vc, vp', vn', vc', rfl, hvp⟩
                 have hrd := (hvp.good _ _ HVN.out).1; rw [HDU.out] at hrd
                 obtain ⟨p5, cc5, q1, q2, q3, q4⟩ := hrd.below ((Below.refl w5.heap.size w5).alloc (Nat.le_refl _) (.cells #[.int .i64 vk, .string vS, .slice vp vn vc, .slice vp' vn' vc'] 25))
                 obtain ⟨d0, d1, d2, df⟩ := cells3 q1
                 have hb4 := HB.out
                 have hbz : JBox w5 w.heap.size := (JBox.same (w := w3) HB.out (((Below.refl w3.heap.size w3).alloc (Nat.le_refl _) _).block _ HB.out.lt)).same (hvp.gb.block _ (by have := HB.out.lt; simp; omega) (fun e => by have := Option.some.inj e; have := HB.out.lt; omega))
                 have hbz2 : JBox (w5.alloc (.cells #[.int .i64 vk, .string vS, .slice vp vn vc, .slice vp' vn' vc'] 25)) w.heap.size := hbz.same (((Below.refl w5.heap.size w5).alloc (Nat.le_refl _) _).block _ hbz.lt)
                 have HBZ := Lib.hid hbz2
                 have HVP := Lib.hid hvp
                 clear hbz hbz2 q1 q2 q3 q4 hb4 df hvp)
              | (refine store_val rfl (.tmp 2) (.tmp 46) rfl w.heap.size rfl (.int .i64 0) (.string ⟨#[]⟩) (.slice none 0 0) (.slice none 0 0) rfl rfl HBZ.out (fun V hV hgV _ => ?_)))
            refine bodyPost_ret (ret_val2 Tryz.results52 rfl rfl hV) rfl (PP.zero HPE.out ?_ rfl)
            exact below_gbz (parse_below (HB0.out.trans (HB3.out.mono HB0.out.size)) HVP.out.gb) (Nat.le_refl _) hgV
          | false =>
            rw [hdu, if_neg (by decide)] at hpar
            have HPE := Lib.hid hpar
            have HVN := Lib.hid ho
            have HDU := Lib.hid hdu
            clear ho hpar hdu
            go_enter Tryz.func52, Tryz.ntmps52
            go_wp2_with (first
              | (go_at_call 110; refine htk.mono ?_; rintro e w2 ⟨tv, rfl, hrow, hb2⟩
                 obtain ⟨p, c, rfl, hc, hcm, hTP⟩ := tokP_row hrow (Nat.le_refl _) HWK.out
                 have hdp := deep_any hTP hc HKL.out
                 rw [HD.out] at hdp
                 have HTP := Lib.hid hTP
                 have HC := Lib.hid (And.intro hc hcm)
                 clear hTP hc hcm hrow htk)
              | (go_at_call 111; refine hdp.mono ?_; rintro e w3 ⟨rfl, hb3⟩
                 have hbx : JBox w3 w.heap.size := (HZ.out.same (hb2.block _ HZ.out.lt)).same (hb3.block _ (Nat.lt_of_lt_of_le HZ.out.lt hb2.size))
                 have HB := Lib.hid hbx
                 have HB3 := Lib.hid (hb2.trans (hb3.mono hb2.size))
                 have HVAL := Lib.hid (val_start (tw := false) (bad := false) (HTP.out) HC.out.1 HC.out.2 hb3)
                 clear hbx hdp)
              | (go_at_call 112; refine (value_any (2 * T.length + 1) _ w3.heap.size (kt T) false HVAL.out HKW.out (by have := HKT.out; omega)).mono ?_
                 rintro e w5 ⟨vk, vS, vp, vn, vc, vp', vn', vc', rfl, hvp⟩
                 have hrd := (hvp.good _ _ HVN.out).1; rw [HDU.out] at hrd
                 obtain ⟨p5, cc5, q1, q2, q3, q4⟩ := hrd.below ((Below.refl w5.heap.size w5).alloc (Nat.le_refl _) (.cells #[.int .i64 vk, .string vS, .slice vp vn vc, .slice vp' vn' vc'] 25))
                 obtain ⟨d0, d1, d2, df⟩ := cells3 q1
                 have hb4 := HB.out
                 have hbz : JBox w5 w.heap.size := (JBox.same (w := w3) HB.out (((Below.refl w3.heap.size w3).alloc (Nat.le_refl _) _).block _ HB.out.lt)).same (hvp.gb.block _ (by have := HB.out.lt; simp; omega) (fun e => by have := Option.some.inj e; have := HB.out.lt; omega))
                 have hbz2 : JBox (w5.alloc (.cells #[.int .i64 vk, .string vS, .slice vp vn vc, .slice vp' vn' vc'] 25)) w.heap.size := hbz.same (((Below.refl w5.heap.size w5).alloc (Nat.le_refl _) _).block _ hbz.lt)
                 have HBZ := Lib.hid hbz2
                 have HVP := Lib.hid hvp
                 clear hbz hbz2 q1 q2 q3 q4 hb4 df hvp)
              | (refine store_val rfl (.tmp 2) (.tmp 47) rfl w.heap.size rfl (.int .i64 vk) (.string vS) (.slice vp vn vc) (.slice vp' vn' vc') rfl rfl HBZ.out (fun V hV hgV _ => ?_)))
            refine bodyPost_ret (ret_val2 Tryz.results52 rfl rfl hV) rfl ?_
            exact parse_good HPE.out HVN.out HVP.out (HB0.out.trans (HB3.out.mono HB0.out.size)) hgV
  · have hp : parV l = (jn 0, E) := by rw [HP.out, if_pos hE]
    have hEb : ((E : Int) != 0) = true := by simp; omega
    have HPE := Lib.hid hp
    clear hp hE hlx hpar
    go_enter Tryz.func52, Tryz.ntmps52
    go_wp2_with (first
      | (go_at_call 110; refine htk.mono ?_; rintro e w2 ⟨tv, rfl, hrow, hb2⟩
         have hbx : JBox w2 w.heap.size := HZ.out.same (hb2.block _ HZ.out.lt)
         have HB := Lib.hid hbx
         clear hbx)
      | (refine store_val rfl (.tmp 2) (.tmp 17) rfl w.heap.size rfl (.int .i64 0) (.string ⟨#[]⟩) (.slice none 0 0) (.slice none 0 0) rfl rfl HB.out (fun V hV hgV _ => ?_)))
    refine bodyPost_ret (ret_val2 Tryz.results52 rfl rfl hV) rfl (PP.zero HPE.out ?_ rfl)
    exact below_gbz (HB0.out.trans (hb2.mono HB0.out.size)) (Nat.le_refl _) hgV
end Go.Proofs.Jt
