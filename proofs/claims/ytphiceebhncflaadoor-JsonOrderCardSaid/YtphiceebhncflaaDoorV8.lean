/- Values of JSON in memory: utf, number, shaped. -/
import Derived.Test.YtphiceebhncflaaDoorV7
import Derived.Test.YtphiceebhncflaaDoorJ11
namespace Go.Proofs.Jt
open Go.RowKit Go.Maps Go.Lib Go.Proofs.Utf Go.Proofs

theorem utf_any (s : ByteArray) (w : World) (hT : Tabs w) (hs : s.size ≤ 16777216) : Calls Tryd.prog 70 #[.string s] w fun e w' => e = .returned (.bool (validD s.data.toList)) ∧ Below w.heap.size w w' := by
  have hq := quote_any s w hT hs
  cases hv : validD s.data.toList with
  | true =>
    rw [hv] at hq
    simp only [if_true] at hq
    generalize (⟨(quoteL s.data.toList).toArray⟩ : ByteArray) = Q at hq
    go_enter Tryd.func70, Tryd.ntmps70
    go_wp2_with (first | (go_at_call 18; refine hq.mono ?_; rintro e w1 ⟨rfl, hb⟩))
    go_ret
    exact ⟨rfl, hb⟩
  | false =>
    rw [hv] at hq
    simp only [Bool.false_eq_true, if_false] at hq
    go_enter Tryd.func70, Tryd.ntmps70
    go_wp2_with (first | (go_at_call 18; refine hq.mono ?_; rintro e w1 ⟨rfl, hb⟩))
    go_ret
    exact ⟨rfl, hb⟩
theorem Lx.text_le {l : List UInt8} {a : Nat} {U : List Tok} (h : Lx l a U) : ∀ t T, U = t :: T → t.text.length ≤ t.to_ - t.fr := by
  induction h with
  | nil a => intro t T e; cases e
  | blank _ _ ih => exact ih
  | tok h h1 _ _ =>
    intro t T e
    cases e
    have := next_len h1
    simp only
    omega
theorem num_toks (l : List UInt8) : numB l = true ↔ (toksL l).2.2 = 0 ∧ ∃ t, (toksL l).1 = [t] ∧ t.kind = 3 ∧ t.text = l := by
  constructor
  · intro h
    have hn := numB_next h
    have h1 : LK (l ++ []) [(3, l)] := LK.tok (by rw [List.append_nil]; exact hn) LK.nil
    rw [List.append_nil] at h1
    obtain ⟨T, h2, h3⟩ := h1.toks (num_valid h)
    rw [h2]
    refine ⟨rfl, ?_⟩
    match T, h3 with
    | [], h3 => cases h3
    | _ :: _ :: _, h3 => simp [kt] at h3
    | [t], h3 =>
      unfold kt at h3
      simp only [List.map_cons, List.map_nil, List.cons.injEq, Prod.mk.injEq, and_true] at h3
      exact ⟨t, rfl, h3.1, h3.2⟩
  · rintro ⟨h0, t, h1, h2, h3⟩
    obtain ⟨_, hx⟩ := toks_lx h0
    rw [h1] at hx
    have hle := hx.text_le t [] rfl
    cases hx with
    | blank hb hx2 =>
      rename_i c r
      have h4 := hx2.cons
      have h5 := hx2.text_le t [] rfl
      rw [h3, List.length_cons] at h5
      omega
    | tok hb hn hx2 =>
      rename_i c r k x m
      simp only at h2 h3
      subst h2 h3
      have h4 := next_len hn
      have h5 := nextL_le _ _ hn
      simp only at h5
      unfold numB
      refine decide_eq_true ?_
      rw [hn]
      congr 3
      omega
theorem toks_shape {w : World} {B e n z : Nat} {v : Value} {xs : List Value} (h : w.ownsRow B e z v n xs) : ∃ (p : Option Addr) (c : Nat), v = .slice p n c := by
  rcases h.2 with ⟨rfl, h0⟩ | ⟨g, cap, cur, h1, _⟩
  · exact ⟨none, 0, by rw [h0]⟩
  · exact ⟨_, _, h1⟩
theorem keys_len : ∀ ks : List (List UInt8), ks.length ≤ keysW ks
  | [] => Nat.le_refl _
  | k :: t => by have := keys_len t; rw [keysW, List.length_cons]; omega
theorem wt_pos : ∀ x : JV, 1 ≤ x.wt
  | .mk k s ks it => by rw [JV.wt]; omega
theorem items_len : ∀ l : List JV, l.length ≤ wtL l
  | [] => Nat.le_refl _
  | x :: t => by have := items_len t; have := wt_pos x; rw [wtL, List.length_cons]; omega
set_option maxRecDepth 100000 in
set_option maxHeartbeats 1000000 in
theorem number_any (s : ByteArray) (w : World) (hT : Tabs w) (hs : s.size ≤ 16777216) : Calls Tryd.prog 89 #[.string s] w fun e w' => e = .returned (.bool (numB s.data.toList)) ∧ Below w.heap.size w w' := by
  have hc := tokens_any s w hT hs
  have hn := num_toks s.data.toList
  obtain ⟨T, hTT⟩ : ∃ T, (toksL s.data.toList).1 = T := ⟨_, rfl⟩
  obtain ⟨E, hE⟩ : ∃ E, (toksL s.data.toList).2.2 = E := ⟨_, rfl⟩
  obtain ⟨P, hP⟩ : ∃ P, (toksL s.data.toList).2.1 = P := ⟨_, rfl⟩
  rw [hTT, hE, hP] at hc
  rw [hTT, hE] at hn
  obtain ⟨R, hR⟩ : ∃ R, numB s.data.toList = R := ⟨_, rfl⟩
  rw [hR] at hn ⊢
  clear hR hTT hE hP
  by_cases e0 : E = 0
  · have he : ((E : Int) == 0) = true := by simp [e0]
    by_cases e1 : T.length = 1
    · obtain ⟨t, rfl⟩ : ∃ t, T = [t] := by
        match T, e1 with
        | [t], _ => exact ⟨t, rfl⟩
      have hl : (([t] : List Tok).length : Int) = 1 := rfl
      obtain ⟨X, hX⟩ : ∃ X : ByteArray, (⟨t.text.toArray⟩ : ByteArray) = X := ⟨_, rfl⟩
      have hXs : (t.text = s.data.toList) ↔ X = s := by
        rw [← hX]
        constructor
        · intro h; rw [h]
        · intro h; rw [← h]
      by_cases e2 : t.kind = 3
      · have hk : ((t.kind : Int) == 3) = true := by simp [e2]
        by_cases e3 : X = s
        · obtain rfl : R = true := hn.2 ⟨e0, t, rfl, e2, hXs.2 e3⟩
          have hss : (s.toList == s.toList) = true := by simp
          clear hn e0 e1 e2 hXs
          go_enter Tryd.func89, Tryd.ntmps89
          go_wp2_with (first | (go_at_call 14; refine hc.mono ?_; rintro e w2 ⟨v, rfl, ho, hb2⟩; obtain ⟨g, cap, rfl, hcap, hcell⟩ := toks_at ho (by simp); obtain ⟨a0, a1, a2, a3, _⟩ := hcell 0 t rfl; clear hcell; rw [hX, e3] at a1))
          go_ret
          exact ⟨rfl, hb2⟩
        · have hRf : R = false := by
            cases R with
            | false => rfl
            | true =>
              obtain ⟨_, t', h1, _, h2⟩ := hn.1 rfl
              cases h1
              exact absurd (hXs.1 h2) e3
          subst hRf
          have hne : ¬ X.toList = s.toList := fun h => e3 (by
            rw [ByteArray.toList_eq, ByteArray.toList_eq] at h
            apply ByteArray.ext
            apply Array.toList_inj.1
            exact h)
          have hne2 : (X.toList == s.toList) = false := beq_eq_false_iff_ne.2 hne
          clear hn e0 e1 e2 hXs
          go_enter Tryd.func89, Tryd.ntmps89
          go_wp2_with (first | (go_at_call 14; refine hc.mono ?_; rintro e w2 ⟨v, rfl, ho, hb2⟩; obtain ⟨g, cap, rfl, hcap, hcell⟩ := toks_at ho (by simp); obtain ⟨a0, a1, a2, a3, _⟩ := hcell 0 t rfl; clear hcell; rw [hX] at a1))
          go_ret
          exact ⟨rfl, hb2⟩
      · have hRf : R = false := by
          cases R with
          | false => rfl
          | true =>
            obtain ⟨_, t', h1, h2, _⟩ := hn.1 rfl
            cases h1
            exact absurd h2 e2
        subst hRf
        have hk : ((t.kind : Int) == 3) = false := beq_eq_false_iff_ne.2 (by omega)
        clear hn e0 e1 e2 hXs
        go_enter Tryd.func89, Tryd.ntmps89
        go_wp2_with (first | (go_at_call 14; refine hc.mono ?_; rintro e w2 ⟨v, rfl, ho, hb2⟩; obtain ⟨g, cap, rfl, hcap, hcell⟩ := toks_at ho (by simp); obtain ⟨a0, a1, a2, a3, _⟩ := hcell 0 t rfl; clear hcell))
        go_ret
        exact ⟨rfl, hb2⟩
    · have hRf : R = false := by
        cases R with
        | false => rfl
        | true =>
          obtain ⟨_, t', h1, _⟩ := hn.1 rfl
          rw [h1] at e1
          exact absurd rfl e1
      subst hRf
      have hl : ((T.length : Int) == 1) = false := beq_eq_false_iff_ne.2 (by omega)
      clear hn e0 e1
      go_enter Tryd.func89, Tryd.ntmps89
      go_wp2_with (first | (go_at_call 14; refine hc.mono ?_; rintro e w2 ⟨v, rfl, ho, hb2⟩; obtain ⟨p, c, rfl⟩ := toks_shape ho))
      go_ret
      exact ⟨rfl, hb2⟩
  · have hRf : R = false := by
      cases R with
      | false => rfl
      | true => exact absurd (hn.1 rfl).1 e0
    subst hRf
    have he : ((E : Int) == 0) = false := beq_eq_false_iff_ne.2 (by omega)
    clear hn e0
    go_enter Tryd.func89, Tryd.ntmps89
    go_wp2_with (first | (go_at_call 14; refine hc.mono ?_; rintro e w2 ⟨v, rfl, ho, hb2⟩; obtain ⟨p, c, rfl⟩ := toks_shape ho))
    go_ret
    exact ⟨rfl, hb2⟩
set_option maxRecDepth 100000 in
set_option maxHeartbeats 4000000 in
theorem shaped_any {w : World} {x : JV} {kp ip : Option Addr} {kc ic : Nat} (hw : x.wt ≤ 1000000) (hT : Tabs w) : Calls Tryd.prog 69 #[jval x kp kc ip ic] w fun e w' => e = .returned (.bool x.shaped) ∧ Below w.heap.size w w' := by
  obtain ⟨W, hW⟩ : ∃ W, w.alloc (.cells #[.int .i64 x.kind, .string ⟨x.str.toArray⟩, .slice kp x.keys.length kc, .slice ip x.items.length ic] 45) = W := ⟨_, rfl⟩
  have bW : Below w.heap.size w W := by rw [← hW]; exact (Below.refl _ _).alloc (Nat.le_refl _) _
  have hbx := box_cells hW
  cases x with
  | mk k s ks it =>
  simp only [kind_mk, str_mk, keys_mk, items_mk] at *
  rw [JV.wt] at hw
  have hkl : ks.length ≤ 1000000 := by have := keys_len ks; omega
  have hil : it.length ≤ 1000000 := by have := items_len it; omega
  have hsh : (JV.mk k s ks it).shaped = if k = 0 ∨ k = 1 ∨ k = 2 then decide (s = []) && ((ks.length : Int) + (it.length : Int) == 0) else if k = 3 then ((ks.length : Int) + (it.length : Int) == 0) && numB s else if k = 4 then ((ks.length : Int) + (it.length : Int) == 0) else if k = 5 then decide (s = []) && ((ks.length : Int) == 0) else if k = 6 then decide (s = []) && ((ks.length : Int) == (it.length : Int)) else false := by
    have e1 : (ks.isEmpty && it.isEmpty) = ((ks.length : Int) + (it.length : Int) == 0) := by
      rw [Bool.eq_iff_iff]
      simp [← List.length_eq_zero_iff]
      omega
    have e2 : ks.isEmpty = ((ks.length : Int) == 0) := by
      rw [Bool.eq_iff_iff]
      simp [← List.length_eq_zero_iff]
    have e3 : (ks.length == it.length) = ((ks.length : Int) == (it.length : Int)) := by
      rw [Bool.eq_iff_iff]
      simp
      omega
    rw [JV.shaped, Bool.and_assoc, e1, e2, e3]
  rw [hsh]
  obtain ⟨S, hS⟩ : ∃ S : ByteArray, (⟨s.toArray⟩ : ByteArray) = S := ⟨_, rfl⟩
  have hSl : S.data.toList = s := by rw [← hS]
  have hSz : S.size ≤ 16777216 := by rw [← hS, arr_size]; omega
  have hnum := fun w hT => number_any S w hT hSz
  rw [hSl] at hnum
  simp only [hS] at hW hbx
  obtain ⟨c0, c1, c2, c3⟩ := hbx W (Below.refl _ _)
  obtain ⟨b2, hb2⟩ : ∃ b, ((ks.length : Int) + (it.length : Int) == 0) = b := ⟨_, rfl⟩
  have HBX := Lib.hid hbx
  have HBW := Lib.hid bW
  have HT := Lib.hid hT
  have HNUM := Lib.hid hnum
  have hse : (s = [] ∧ S = ⟨#[]⟩) ∨ (¬ s = [] ∧ ¬ S.toList = [] ∧ S.toList.isEmpty = false) := by
    by_cases e : s = []
    · exact .inl ⟨e, by rw [← hS, e]⟩
    · refine .inr ⟨e, ?_, ?_⟩
      · rw [ByteArray.toList_eq, hSl]; exact e
      · rw [ByteArray.toList_eq, hSl]; cases s with | nil => exact absurd rfl e | cons _ _ => rfl
  unfold jval
  simp only [kind_mk, str_mk, keys_mk, items_mk]
  rw [hS]
  clear hsh bW hnum hT hbx hw hS hSl hSz
  -- WAYS
  rcases (show k = 0 ∨ k = 1 ∨ k = 2 ∨ k = 3 ∨ k = 4 ∨ k = 5 ∨ k = 6 ∨ (¬ k = 0 ∧ ¬ k = 1 ∧ ¬ k = 2 ∧ ¬ k = 3 ∧ ¬ k = 4 ∧ ¬ k = 5 ∧ ¬ k = 6) by omega) with rfl | rfl | rfl | rfl | rfl | rfl | rfl | ⟨k0, k1, k2, k3, k4, k5, k6⟩
  · rw [if_pos (by decide)]
    rcases hse with ⟨e, rfl⟩ | ⟨e, h1, h2⟩
    · rw [decide_eq_true e, Bool.true_and]
      clear e
      rw [hb2]
      go_enter Tryd.func69, Tryd.ntmps69
      go_wp2_with fail
      go_quiet (fail)
      have bq := below_drewN W nq
      obtain ⟨c0, c1, c2, c3⟩ := HBX.out _ bq
      generalize W.drewN nq = V at *
      go_wp2_with fail
      go_ret
      exact ⟨rfl, HBW.out.trans (bq.mono HBW.out.size)⟩
    · rw [decide_eq_false e, Bool.false_and]
      clear e
      go_enter Tryd.func69, Tryd.ntmps69
      go_wp2_with fail
      go_quiet (fail)
      have bq := below_drewN W nq
      obtain ⟨c0, c1, c2, c3⟩ := HBX.out _ bq
      generalize W.drewN nq = V at *
      go_wp2_with fail
      go_ret
      exact ⟨rfl, HBW.out.trans (bq.mono HBW.out.size)⟩
  · rw [if_pos (by decide)]
    rcases hse with ⟨e, rfl⟩ | ⟨e, h1, h2⟩
    · rw [decide_eq_true e, Bool.true_and]
      clear e
      rw [hb2]
      go_enter Tryd.func69, Tryd.ntmps69
      go_wp2_with fail
      go_quiet (fail)
      have bq := below_drewN W nq
      obtain ⟨c0, c1, c2, c3⟩ := HBX.out _ bq
      generalize W.drewN nq = V at *
      go_wp2_with fail
      go_ret
      exact ⟨rfl, HBW.out.trans (bq.mono HBW.out.size)⟩
    · rw [decide_eq_false e, Bool.false_and]
      clear e
      go_enter Tryd.func69, Tryd.ntmps69
      go_wp2_with fail
      go_quiet (fail)
      have bq := below_drewN W nq
      obtain ⟨c0, c1, c2, c3⟩ := HBX.out _ bq
      generalize W.drewN nq = V at *
      go_wp2_with fail
      go_ret
      exact ⟨rfl, HBW.out.trans (bq.mono HBW.out.size)⟩
  · rw [if_pos (by decide)]
    rcases hse with ⟨e, rfl⟩ | ⟨e, h1, h2⟩
    · rw [decide_eq_true e, Bool.true_and]
      clear e
      rw [hb2]
      go_enter Tryd.func69, Tryd.ntmps69
      go_wp2_with fail
      go_quiet (fail)
      have bq := below_drewN W nq
      obtain ⟨c0, c1, c2, c3⟩ := HBX.out _ bq
      generalize W.drewN nq = V at *
      go_wp2_with fail
      go_ret
      exact ⟨rfl, HBW.out.trans (bq.mono HBW.out.size)⟩
    · rw [decide_eq_false e, Bool.false_and]
      clear e
      go_enter Tryd.func69, Tryd.ntmps69
      go_wp2_with fail
      go_quiet (fail)
      have bq := below_drewN W nq
      obtain ⟨c0, c1, c2, c3⟩ := HBX.out _ bq
      generalize W.drewN nq = V at *
      go_wp2_with fail
      go_ret
      exact ⟨rfl, HBW.out.trans (bq.mono HBW.out.size)⟩
  · rw [if_neg (by decide), if_pos rfl, hb2]
    cases b2 with
    | true =>
      rw [Bool.true_and]
      go_enter Tryd.func69, Tryd.ntmps69
      go_wp2_with fail
      go_quiet (fail)
      have bq := below_drewN W nq
      obtain ⟨c0, c1, c2, c3⟩ := HBX.out _ bq
      generalize W.drewN nq = V at *
      go_wp2_with (first | (go_at_call 89; refine (HNUM.out _ (HT.out.below (HBW.out.trans (bq.mono HBW.out.size)))).mono ?_; rintro e w3 ⟨rfl, hb3⟩))
      go_ret
      exact ⟨rfl, HBW.out.trans ((bq.trans (hb3.mono bq.size)).mono HBW.out.size)⟩
    | false =>
      rw [Bool.false_and]
      go_enter Tryd.func69, Tryd.ntmps69
      go_wp2_with fail
      go_quiet (fail)
      have bq := below_drewN W nq
      obtain ⟨c0, c1, c2, c3⟩ := HBX.out _ bq
      generalize W.drewN nq = V at *
      go_wp2_with fail
      go_ret
      exact ⟨rfl, HBW.out.trans (bq.mono HBW.out.size)⟩
  · rw [if_neg (by decide), if_neg (by decide), if_pos rfl, hb2]
    go_enter Tryd.func69, Tryd.ntmps69
    go_wp2_with fail
    go_quiet (fail)
    have bq := below_drewN W nq
    obtain ⟨c0, c1, c2, c3⟩ := HBX.out _ bq
    generalize W.drewN nq = V at *
    go_wp2_with fail
    go_ret
    exact ⟨rfl, HBW.out.trans (bq.mono HBW.out.size)⟩
  · rw [if_neg (by decide), if_neg (by decide), if_neg (by decide), if_pos rfl]
    rcases hse with ⟨e, rfl⟩ | ⟨e, h1, h2⟩
    · rw [decide_eq_true e, Bool.true_and]
      clear e
      go_enter Tryd.func69, Tryd.ntmps69
      go_wp2_with fail
      go_quiet (fail)
      have bq := below_drewN W nq
      obtain ⟨c0, c1, c2, c3⟩ := HBX.out _ bq
      generalize W.drewN nq = V at *
      go_wp2_with fail
      go_ret
      exact ⟨rfl, HBW.out.trans (bq.mono HBW.out.size)⟩
    · rw [decide_eq_false e, Bool.false_and]
      clear e
      go_enter Tryd.func69, Tryd.ntmps69
      go_wp2_with fail
      go_quiet (fail)
      have bq := below_drewN W nq
      obtain ⟨c0, c1, c2, c3⟩ := HBX.out _ bq
      generalize W.drewN nq = V at *
      go_wp2_with fail
      go_ret
      exact ⟨rfl, HBW.out.trans (bq.mono HBW.out.size)⟩
  · rw [if_neg (by decide), if_neg (by decide), if_neg (by decide), if_neg (by decide), if_pos rfl]
    rcases hse with ⟨e, rfl⟩ | ⟨e, h1, h2⟩
    · rw [decide_eq_true e, Bool.true_and]
      clear e
      go_enter Tryd.func69, Tryd.ntmps69
      go_wp2_with fail
      go_quiet (fail)
      have bq := below_drewN W nq
      obtain ⟨c0, c1, c2, c3⟩ := HBX.out _ bq
      generalize W.drewN nq = V at *
      go_wp2_with fail
      go_ret
      exact ⟨rfl, HBW.out.trans (bq.mono HBW.out.size)⟩
    · rw [decide_eq_false e, Bool.false_and]
      clear e
      go_enter Tryd.func69, Tryd.ntmps69
      go_wp2_with fail
      go_quiet (fail)
      have bq := below_drewN W nq
      obtain ⟨c0, c1, c2, c3⟩ := HBX.out _ bq
      generalize W.drewN nq = V at *
      go_wp2_with fail
      go_ret
      exact ⟨rfl, HBW.out.trans (bq.mono HBW.out.size)⟩
  · rw [if_neg (by omega), if_neg k3, if_neg k4, if_neg k5, if_neg k6]
    have z0 : (k == 0) = false := beq_eq_false_iff_ne.2 k0
    have z1 : (k == 1) = false := beq_eq_false_iff_ne.2 k1
    have z2 : (k == 2) = false := beq_eq_false_iff_ne.2 k2
    have z3 : (k == 3) = false := beq_eq_false_iff_ne.2 k3
    have z4 : (k == 4) = false := beq_eq_false_iff_ne.2 k4
    have z5 : (k == 5) = false := beq_eq_false_iff_ne.2 k5
    have z6 : (k == 6) = false := beq_eq_false_iff_ne.2 k6
    go_enter Tryd.func69, Tryd.ntmps69
    go_wp2_with fail
    go_quiet (fail)
    have bq := below_drewN W nq
    obtain ⟨c0, c1, c2, c3⟩ := HBX.out _ bq
    generalize W.drewN nq = V at *
    go_wp2_with fail
    go_ret
    exact ⟨rfl, HBW.out.trans (bq.mono HBW.out.size)⟩
end Go.Proofs.Jt
