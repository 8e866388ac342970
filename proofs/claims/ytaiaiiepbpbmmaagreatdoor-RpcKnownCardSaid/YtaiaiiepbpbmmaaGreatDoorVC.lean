/- Merged texts: V19, V20, V21, V22. -/
import Derived.Test.YtaiaiiepbpbmmaaGreatDoorV18
import Derived.Deep.CutBlock
/- V19: The reader: a list of items (list). -/
namespace Go.Proofs.Jt
open Go.RowKit Go.Maps Go.Lib Go.Proofs.Utf Go.Proofs

/-- what a closure of a list leaves -/
structure OneP (o : Bool) (fx : List (Nat × Obj)) (w0 : World) (R vb M lo N n : Nat) (K : List KT) (tw : Bool) (ks : List (List UInt8)) (it : List JV) (w' : World) : Prop where
  good : ∀ key r2 v r3, keyP o K = some (key, r2) → valP n r2 = some (v, r3) → LG o fx w0 R vb M lo N w' r3 (tw || (o && decide (key ∈ ks)) || v.dup) (ks ++ [key]) (it ++ [v])
  bad : (∀ key r2, keyP o K = some (key, r2) → valP n r2 = none) → LB fx w0 R vb w'
def LM (o : Bool) (R M : Nat) : Prop := o = true → R < M
theorem LG.go {o : Bool} {fx : List (Nat × Obj)} {w0 w w' : World} {R vb M lo N : Nat} {K K' : List KT} {tw : Bool} {ks : List (List UInt8)} {it : List JV} (hs : LS fx w0 R vb M lo) (hM : LM o R M) (h : LG o fx w0 R vb M lo N w K tw ks it) (hg : w.grownBy w' (some R)) (hr : RD w' R K' false tw) (hk : kw K' ≤ kw K) :
    LG o fx w0 R vb M lo N w' K' tw ks it := by
  have h1 := hs.rlt
  have h2 := hs.vlt
  obtain ⟨L, kv, iv, h3, h4⟩ := h.v
  have F : FrP (fun k => k = R) w w' := FrP.of hg rfl
  have FT : FrP (ClP R vb M lo) w w' := FrP.of hg (.inl rfl)
  have hwt := h.wt
  exact ⟨gb_cl hs h.fr FT, hr, fx_cl hs h.fx FT, ⟨L, kv, iv, h3.fr F (by omega) (fun b hb => by omega), h4⟩, fun ho => (h.met ho).kept hg (fun e => absurd (Option.some.inj e) (Nat.ne_of_gt (hM ho))), by omega, Nat.le_trans h.sz hg.size⟩
theorem LB.go {fx : List (Nat × Obj)} {w0 w w' : World} {R vb M lo : Nat} {K' : List KT} {tw : Bool} (hs : LS fx w0 R vb M lo) (h : LB fx w0 R vb w) (hg : w.grownBy w' (some R)) (hr : RD w' R K' true tw) : LB fx w0 R vb w' := by
  have h1 := hs.rlt
  have h2 := hs.vlt
  obtain ⟨k, S, p, n, c, p', n', c', h3⟩ := h.v
  have FT : FrP (ClP R vb M lo) w w' := FrP.of hg (.inl rfl)
  exact ⟨gb_cl hs h.fr FT, ⟨_, _, hr⟩, fx_cl hs h.fx FT, k, S, p, n, c, p', n', c', (hg.block vb (Array.getElem?_eq_some_iff.1 h3).1 (fun e => by have := Option.some.inj e; omega)).trans h3⟩
/-- a reader that falls -/
theorem LG.fall {o : Bool} {fx : List (Nat × Obj)} {w0 w w' : World} {R vb M lo N : Nat} {K K' : List KT} {tw tw' : Bool} {ks : List (List UInt8)} {it : List JV} (hs : LS fx w0 R vb M lo) (h : LG o fx w0 R vb M lo N w K tw ks it) (hg : w.grownBy w' (some R)) (hr : RD w' R K' true tw') : LB fx w0 R vb w' := by
  have h1 := hs.rlt
  have h2 := hs.vlt
  obtain ⟨L, kv, iv, h3, h4⟩ := h.v
  have FT : FrP (ClP R vb M lo) w w' := FrP.of hg (.inl rfl)
  obtain ⟨p1, c1, e1⟩ := row_form h3.rk
  obtain ⟨p2, c2, e2⟩ := row_form h3.ri
  have hd := h3.hd
  rw [e1, e2] at hd
  exact ⟨gb_cl hs h.fr FT, ⟨_, _, hr⟩, fx_cl hs h.fx FT, _, _, _, _, _, _, _, _, (hg.block vb (Array.getElem?_eq_some_iff.1 hd).1 (fun e => by have := Option.some.inj e; omega)).trans hd⟩
/-- how much a reader has to read -/
def rdM (w : World) (R : Nat) : Nat := match w.heap[R]? with
  | some (.cells cs _ _) => match cs.toList with
    | [.slice _ n _, .bool b, _] => if b then 0 else n + 1
    | _ => 0
  | _ => 0
theorem RD.m {w : World} {R : Nat} {K : List KT} {bad tw : Bool} (h : RD w R K bad tw) : rdM w R = if bad then 0 else K.length + 1 := by
  obtain ⟨p, c, h1, _⟩ := h
  unfold rdM
  rw [h1]
theorem dupL_snoc (o : Bool) : ∀ (it : List JV) (ks : List (List UInt8)) (met : List (List UInt8)) (v : JV) (key : List UInt8), ks.length = it.length → dupL o (it ++ [v]) (ks ++ [key]) met = (dupL o it ks met || ((o && decide (key ∈ ks ∨ key ∈ met)) || v.dup))
  | [], [], met, v, key, _ => by simp [dupL]
  | [], k :: t, met, v, key, h => by cases h
  | x :: t, [], met, v, key, h => by cases h
  | x :: t, k :: u, met, v, key, h => by
    rw [List.cons_append, List.cons_append, dupL, dupL, List.headD_cons, List.headD_cons, List.tail_cons, List.tail_cons, dupL_snoc o t u (k :: met) v key (by simpa using h)]
    have e : decide (key ∈ u ∨ key ∈ k :: met) = decide (key ∈ k :: u ∨ key ∈ met) := decide_eq_decide.2 (by simp only [List.mem_cons]; rw [or_left_comm, ← or_assoc])
    rw [e]
    cases o <;> cases decide (k ∈ met) <;> cases x.dup <;> cases dupL _ t u (k :: met) <;> rfl
theorem dupL_false : ∀ (it : List JV) (ks ks' met met' : List (List UInt8)), dupL false it ks met = dupL false it ks' met'
  | [], _, _, _, _ => by rw [dupL, dupL]
  | x :: t, ks, ks', met, met' => by
    rw [dupL, dupL, dupL_false t ks.tail ks'.tail _ (ks'.headD [] :: met')]
    rfl
/-- what the words of a list say -/
def lisP (n : Nat) (o : Bool) (K : List KT) : Option (JV × List KT) := if K.head? = some (1, endK o) then some (jn (if o then 6 else 5), K.tail) else itmP n o K [] []
def lv (o : Bool) (ks : List (List UInt8)) (it : List JV) : JV := .mk (if o then 6 else 5) [] (if o then ks else []) it
theorem lv_dup (o : Bool) (ks : List (List UInt8)) (it : List JV) : (lv o ks it).dup = dupL o it ks [] := by
  unfold lv
  rw [JV.dup]
  cases o with
  | true => rfl
  | false => exact dupL_false _ _ _ _ _
/-- what a list's reading leaves -/
structure LP (o : Bool) (fx : List (Nat × Obj)) (w0 : World) (R vb M lo N n : Nat) (K : List KT) (tw : Bool) (w' : World) : Prop where
  good : ∀ v r, lisP n o K = some (v, r) → ∃ ks it, LG o fx w0 R vb M lo N w' r (tw || v.dup) ks it ∧ v = lv o ks it
  bad : lisP n o K = none → LB fx w0 R vb w'
/-- where the loop stands -/
def LI (o : Bool) (fx : List (Nat × Obj)) (w0 : World) (R vb M lo N n : Nat) (K : List KT) (tw : Bool) (w : World) : Prop :=
  (∃ m K' ks it, m + 1 ≤ n ∧ 2 * K'.length + 2 ≤ m + 1 ∧ ks.length = it.length ∧ itmP (m + 1) o K' ks it = itmP n o K [] [] ∧ LG o fx w0 R vb M lo N w K' (tw || dupL o it ks []) ks it) ∨ (itmP n o K [] [] = none ∧ LB fx w0 R vb w)
theorem itmP_succ (m : Nat) (o : Bool) (K : List KT) (ks : List (List UInt8)) (it : List JV) : itmP (m + 1) o K ks it = match keyP o K with
    | none => none
    | some (key, r2) => match valP m r2 with
      | none => none
      | some (v, r3) =>
        if r3.head? = some (1, endK o) then some (lv o (ks ++ [key]) (it ++ [v]), r3.tail)
        else if r3.head? = some (1, [44]) then itmP m o r3.tail (ks ++ [key]) (it ++ [v])
        else none := by
  rw [itmP]
  rfl
theorem val_len : ∀ n : Nat, (∀ (l : List KT) (v : JV) (r : List KT), valP n l = some (v, r) → r.length < l.length) ∧
    (∀ (o : Bool) (l : List KT) (ks : List (List UInt8)) (it : List JV) (v : JV) (r : List KT), itmP n o l ks it = some (v, r) → r.length < l.length)
  | 0 => ⟨fun l v r h => (by rw [valP] at h; cases h), fun o l ks it v r h => by rw [itmP] at h; cases h⟩
  | n + 1 => by
    obtain ⟨ih1, ih2⟩ := val_len n
    refine ⟨fun l v r h => ?_, fun o l ks it v r h => ?_⟩
    · cases l with
      | nil => rw [valP] at h; cases h
      | cons t l =>
        obtain ⟨k, x⟩ := t
        rw [valP_cons] at h
        rw [List.length_cons]
        have hend : ∀ (e : List UInt8) (w : JV) (b : Bool), (if l.head? = some (1, e) then some (w, l.tail) else itmP n b l [] []) = some (v, r) → r.length < l.length + 1 := fun e w b h => by
          split at h
          · cases h
            rw [List.length_tail]
            omega
          · have := ih2 b l [] [] v r h
            omega
        split at h
        · split at h
          · cases h; omega
          · split at h
            · cases h; omega
            · split at h
              · cases h; omega
              · cases h
        · split at h
          · cases h; omega
          · split at h
            · cases h; omega
            · split at h
              · exact hend _ _ _ h
              · split at h
                · exact hend _ _ _ h
                · cases h
    · rw [itmP] at h
      split at h
      · cases h
      · rename_i key r2 hkey
        have hl2 : r2.length ≤ l.length := by
          rcases keyP_some hkey with ⟨ho, e⟩ | ⟨ho, _, e⟩
          · rw [e, List.length_cons, List.length_cons]; omega
          · rw [e]; exact Nat.le_refl _
        split at h
        · cases h
        · rename_i w r3 hv
          have h1 := ih1 r2 w r3 hv
          split at h
          · cases h
            rw [List.length_tail]
            omega
          · split at h
            · have h9 := ih2 o r3.tail _ _ v r h
              rw [List.length_tail] at h9
              omega
            · cases h
end Go.Proofs.Jt
/- V20: The reader: list with the closure of object. -/
namespace Go.Proofs.Jt
open Go.RowKit Go.Maps Go.Lib Go.Proofs.Utf Go.Proofs

set_option maxRecDepth 100000 in
set_option maxHeartbeats 4000000 in
theorem list_object {fx : List (Nat × Obj)} {w0 : World} {R vb M lo N n bb bm : Nat} (hs : LS fx w0 R vb M lo) (hM : LM true R M)
    (HONE : Hid (∀ m, m + 1 ≤ n → ∀ (w : World) (K : List KT) (tw : Bool) (ks : List (List UInt8)) (it : List JV), LG true fx w0 R vb M lo N w K tw ks it → 2 * K.length + 2 ≤ m + 1 → Calls Tryz.prog 210 #[.pointer (some ⟨bb, 0, none⟩), .pointer (some ⟨bm, 0, none⟩), .pointer (some ⟨vb, 0, none⟩)] w fun e w' => e = .returned (.tuple #[]) ∧ OneP true fx w0 R vb M lo N m K tw ks it w'))
    {w : World} {K : List KT} {tw : Bool} (h : LG true fx w0 R vb M lo N w K tw [] []) (hn : 2 * K.length + 2 ≤ n) :
    Calls Tryz.prog 209 #[.pointer (some ⟨R, 0, none⟩), .string ⟨#[125]⟩, .func (.func 210) #[] #[.pointer (some ⟨bb, 0, none⟩), .pointer (some ⟨bm, 0, none⟩), .pointer (some ⟨vb, 0, none⟩)]] w fun e w' => e = .returned (.tuple #[]) ∧ LP true fx w0 R vb M lo N n K tw w' := by
  have his0 := is_any h.rd ⟨#[125]⟩
  have hRl := h.rd.lt
  have htl : ∀ K' : List KT, kw K'.tail ≤ kw K' := fun K' => by cases K' with | nil => exact Nat.le_refl _ | cons y t => obtain ⟨j, x⟩ := y; simp only [List.tail_cons, kw]; omega
  have HTL := Lib.hid htl
  have HS := Lib.hid hs
  have HM := Lib.hid hM
  have HG := Lib.hid h
  have HKN := Lib.hid hn
  clear htl h hs hM hn
  by_cases hd : K.head? = some (1, (⟨#[125]⟩ : ByteArray).data.toList)
  · rw [if_pos hd, decide_eq_true hd] at his0
    have HD := Lib.hid hd
    clear hd
    go_enter Tryz.func209, Tryz.ntmps209
    go_wp2_with (first | (go_at_call 163; refine his0.mono ?_; rintro e w1 ⟨rfl, g1, r1, _⟩))
    try simp only [Exit.inBlock, Exit.then]
    refine bodyPost_ret (results_none rfl _ _ _) rfl ?_
    have hl : lisP n true K = some (jn (if true then 6 else 5), K.tail) := if_pos HD.out
    refine ⟨rfl, fun v r hv => ?_, fun hv => by rw [hl] at hv; cases hv⟩
    rw [hl] at hv
    obtain ⟨rfl, rfl⟩ : jn (if true then 6 else 5) = v ∧ K.tail = r := by injection hv with hv; injection hv with a b; exact ⟨a, b⟩
    have e0 : (jn (if true then 6 else 5)).dup = false := rfl
    rw [e0, Bool.or_false]
    exact ⟨[], [], HG.out.go HS.out HM.out g1 r1 (HTL.out K), rfl⟩
  · rw [if_neg hd, decide_eq_false hd] at his0
    have hl : lisP n true K = itmP n true K [] [] := if_neg hd
    have HLI := Lib.hid hl
    clear hd hl
    go_enter Tryz.func209, Tryz.ntmps209
    go_wp2_with (first | (go_at_call 163; refine his0.mono ?_; rintro e w1 ⟨rfl, g1, r1, _⟩))
    have hstart : LI true fx w0 R vb M lo N n K tw w1 := .inl ⟨n - 1, K, [], [], by have := HKN.out; omega, by have := HKN.out; omega, rfl, by have := HKN.out; rw [show n - 1 + 1 = n by omega], by
      rw [show (tw || dupL true ([] : List JV) [] []) = tw by cases tw <;> rfl]
      exact HG.out.go HS.out HM.out g1 r1 (Nat.le_refl _)⟩
    clear g1 r1 his0
    go_loopw [] (fun wr => LI true fx w0 R vb M lo N n K tw wr) (fun wr => rdM wr R)
    case atStart => exact hstart
    case round =>
      rcases hrel with ⟨m, K', ks, it, hm, hK, hkl, hit, hLG⟩ | ⟨hnone, hLB⟩
      · have hone := HONE.out m hm wr K' _ ks it hLG hK
        have hmeas := hLG.rd.m
        obtain ⟨p, cc, q1, q2, q3, q4⟩ := hLG.rd
        obtain ⟨c0, c1, c2, cf⟩ := cells3 q1
        have HMS := Lib.hid hmeas
        have HLG := Lib.hid hLG
        have HIT := Lib.hid hit
        have HKL := Lib.hid hkl
        clear q1 q2 q3 q4 cf hmeas hLG hit hkl hstart
        go_upto_region 3 with (first | (go_at_call 210; refine hone.mono ?_; rintro e w1 ⟨rfl, hp1⟩))
        clear c0 c1 c2 hone
        by_cases hgood : ∃ key r2 v r3, keyP true K' = some (key, r2) ∧ valP m r2 = some (v, r3)
        · obtain ⟨key, r2, v, r3, hk, hv⟩ := hgood
          have hLG1 := hp1.good key r2 v r3 hk hv
          have hlen3 := (val_len m).1 _ _ _ hv
          have hlen2 : r2.length ≤ K'.length := by
            rcases keyP_some hk with ⟨ho, e⟩ | ⟨ho, _, e⟩
            · rw [e, List.length_cons, List.length_cons]; omega
            · rw [e]; exact Nat.le_refl _
          have hT : itmP (m + 1) true K' ks it = (if r3.head? = some (1, endK true) then some (lv true (ks ++ [key]) (it ++ [v]), r3.tail) else if r3.head? = some (1, [44]) then itmP m true r3.tail (ks ++ [key]) (it ++ [v]) else none) := by
            rw [itmP_succ, hk]
            dsimp only
            rw [hv]
          have hdup : (tw || dupL true it ks [] || (true && decide (key ∈ ks)) || v.dup) = (tw || dupL true (it ++ [v]) (ks ++ [key]) []) := by
            rw [dupL_snoc true it ks [] v key HKL.out]
            simp only [List.not_mem_nil, or_false, Bool.or_assoc]
          rw [hdup] at hLG1
          have his1 := is_any hLG1.rd ⟨#[125]⟩
          have HT := Lib.hid hT
          have HG1 := Lib.hid hLG1
          clear hT hdup hLG1 hp1 hk hv
          by_cases he : r3.head? = some (1, (⟨#[125]⟩ : ByteArray).data.toList)
          · rw [if_pos he, decide_eq_true he] at his1
            have HE := Lib.hid he
            clear he
            go_wp2_with (first | (go_at_call 163; refine his1.mono ?_; rintro e w2 ⟨rfl, g2, rr2, _⟩))
            try simp only [Exit.inBlock, Exit.then]
            refine bodyPost_ret (results_none rfl _ _ _) rfl ?_
            have hT2 := HT.out
            rw [if_pos (show r3.head? = some (1, endK true) from HE.out), HIT.out, ← HLI.out] at hT2
            refine ⟨rfl, fun v' r' hv' => ?_, fun hv' => by rw [hT2] at hv'; cases hv'⟩
            rw [hT2] at hv'
            obtain ⟨rfl, rfl⟩ : lv true (ks ++ [key]) (it ++ [v]) = v' ∧ r3.tail = r' := by injection hv' with hv'; injection hv' with a b; exact ⟨a, b⟩
            rw [lv_dup]
            exact ⟨_, _, HG1.out.go HS.out HM.out g2 rr2 (HTL.out r3), rfl⟩
          · rw [if_neg he, decide_eq_false he] at his1
            have HE := Lib.hid he
            clear he
            by_cases hcm : r3.head? = some (1, (⟨#[44]⟩ : ByteArray).data.toList)
            · have HC := Lib.hid hcm
              clear hcm
              go_wp2_with (first
                | (go_at_call 163; refine his1.mono ?_; rintro e w2 ⟨rfl, g2, rr2, _⟩; have his2 := is_any rr2 ⟨#[44]⟩; rw [if_pos HC.out, decide_eq_true HC.out] at his2; clear his1)
                | (go_at_call 163; refine his2.mono ?_; rintro e w3 ⟨rfl, g3, rr3, _⟩))
              go_roundw
              case rel =>
                have hT2 := HT.out
                rw [if_neg (show ¬ r3.head? = some (1, endK true) from HE.out), if_pos (show r3.head? = some (1, [44]) from HC.out), HIT.out] at hT2
                have hr3 : r3.length = r3.tail.length + 1 := by
                  cases r3 with
                  | nil => exact absurd HC.out (by simp)
                  | cons y t => rfl
                refine .inl ⟨m - 1, r3.tail, ks ++ [key], it ++ [v], by omega, by omega, by rw [List.length_append, List.length_append, HKL.out]; rfl, by rw [show m - 1 + 1 = m by omega]; exact hT2.symm, ?_⟩
                exact (HG1.out.go HS.out HM.out g2 rr2 (Nat.le_refl _)).go HS.out HM.out g3 rr3 (HTL.out r3)
              case measure =>
                rw [rr3.m, HMS.out]
                simp only [Bool.false_eq_true, if_false, List.length_tail]
                omega
            · have HC := Lib.hid hcm
              clear hcm
              go_wp2_with (first
                | (go_at_call 163; refine his1.mono ?_; rintro e w2 ⟨rfl, g2, rr2, _⟩; have his2 := is_any rr2 ⟨#[44]⟩; rw [if_neg HC.out, decide_eq_false HC.out] at his2; clear his1)
                | (go_at_call 163; refine his2.mono ?_; rintro e w3 ⟨rfl, g3, rr3, _⟩
                   have HR3 := Lib.hid rr3
                   obtain ⟨p3, cc3, q1, q2, q3, q4⟩ := rr3
                   obtain ⟨c0, c1, c2, cf⟩ := cells3 q1
                   have cf1 := cf 1
                   clear q1 q2 q3 q4 cf))
              go_roundw
              case rel =>
                have hT2 := HT.out
                rw [if_neg (show ¬ r3.head? = some (1, endK true) from HE.out), if_neg (show ¬ r3.head? = some (1, [44]) from HC.out), HIT.out] at hT2
                exact .inr ⟨hT2, LG.fall HS.out ((HG1.out.go HS.out HM.out g2 rr2 (Nat.le_refl _)).go HS.out HM.out g3 HR3.out (Nat.le_refl _)) (gb_set w3 R 1 _) HR3.out.fall⟩
              case measure =>
                rw [HR3.out.fall.m, HMS.out]
                simp
        · have hnone : ∀ key r2, keyP true K' = some (key, r2) → valP m r2 = none := fun key r2 hk => by
            cases hv : valP m r2 with
            | none => rfl
            | some y => exact absurd ⟨key, r2, y.1, y.2, hk, hv⟩ hgood
          have hLB1 := hp1.bad hnone
          have hT : itmP (m + 1) true K' ks it = none := by
            rw [itmP_succ]
            split
            · rfl
            · rename_i key r2 hk
              rw [hnone key r2 hk]
          rw [HIT.out] at hT
          have HT := Lib.hid hT
          obtain ⟨K1, tw1, rr1⟩ := hLB1.rd
          have his1 := is_any rr1 ⟨#[125]⟩
          have HB1 := Lib.hid hLB1
          clear hT hLB1 hp1 hgood hnone
          by_cases he : K1.head? = some (1, (⟨#[125]⟩ : ByteArray).data.toList)
          · rw [decide_eq_true he] at his1
            clear he
            go_wp2_with (first | (go_at_call 163; refine his1.mono ?_; rintro e w2 ⟨rfl, g2, rr2, _⟩))
            try simp only [Exit.inBlock, Exit.then]
            refine bodyPost_ret (results_none rfl _ _ _) rfl ?_
            exact ⟨rfl, fun v' r' hv' => (by rw [HLI.out, HT.out] at hv'; cases hv'), fun _ => HB1.out.go HS.out g2 rr2⟩
          · rw [decide_eq_false he, if_neg he] at his1
            clear he
            by_cases hcm : K1.head? = some (1, (⟨#[44]⟩ : ByteArray).data.toList)
            · have HC := Lib.hid hcm
              clear hcm
              go_wp2_with (first
                | (go_at_call 163; refine his1.mono ?_; rintro e w2 ⟨rfl, g2, rr2, _⟩; have his2 := is_any rr2 ⟨#[44]⟩; rw [if_pos HC.out, decide_eq_true HC.out] at his2; clear his1)
                | (go_at_call 163; refine his2.mono ?_; rintro e w3 ⟨rfl, g3, rr3, _⟩))
              go_roundw
              case rel => exact .inr ⟨HT.out, (HB1.out.go HS.out g2 rr2).go HS.out g3 rr3⟩
              case measure => rw [rr3.m, HMS.out]; simp
            · have HC := Lib.hid hcm
              clear hcm
              go_wp2_with (first
                | (go_at_call 163; refine his1.mono ?_; rintro e w2 ⟨rfl, g2, rr2, _⟩; have his2 := is_any rr2 ⟨#[44]⟩; rw [if_neg HC.out, decide_eq_false HC.out] at his2; clear his1)
                | (go_at_call 163; refine his2.mono ?_; rintro e w3 ⟨rfl, g3, rr3, _⟩
                   have HR3 := Lib.hid rr3
                   obtain ⟨p3, cc3, q1, q2, q3, q4⟩ := rr3
                   obtain ⟨c0, c1, c2, cf⟩ := cells3 q1
                   have cf1 := cf 1
                   clear q1 q2 q3 q4 cf))
              go_roundw
              case rel => exact .inr ⟨HT.out, ((HB1.out.go HS.out g2 rr2).go HS.out g3 HR3.out).go HS.out (gb_set w3 R 1 _) HR3.out.fall⟩
              case measure => rw [HR3.out.fall.m, HMS.out]; simp
      · obtain ⟨K1, tw1, rr1⟩ := hLB.rd
        obtain ⟨p, cc, q1, q2, q3, q4⟩ := rr1
        obtain ⟨c0, c1, c2, cf⟩ := cells3 q1
        have HB1 := Lib.hid hLB
        have HN1 := Lib.hid hnone
        clear q1 q2 q3 q4 cf hLB hnone hstart
        go_wp2_with fail
        go_end0
        exact ⟨rfl, fun v' r' hv' => (by rw [HLI.out, HN1.out] at hv'; cases hv'), fun _ => HB1.out⟩
end Go.Proofs.Jt
/- V21: The reader: list with the closure of array. -/
namespace Go.Proofs.Jt
open Go.RowKit Go.Maps Go.Lib Go.Proofs.Utf Go.Proofs

set_option maxRecDepth 100000 in
set_option maxHeartbeats 4000000 in
theorem list_array {fx : List (Nat × Obj)} {w0 : World} {R vb M lo N n ob : Nat} (hs : LS fx w0 R vb M lo) (hM : LM false R M)
    (HONE : Hid (∀ m, m + 1 ≤ n → ∀ (w : World) (K : List KT) (tw : Bool) (ks : List (List UInt8)) (it : List JV), LG false fx w0 R vb M lo N w K tw ks it → 2 * K.length + 2 ≤ m + 1 → Calls Tryz.prog 211 #[.pointer (some ⟨vb, 0, none⟩), .pointer (some ⟨ob, 0, none⟩)] w fun e w' => e = .returned (.tuple #[]) ∧ OneP false fx w0 R vb M lo N m K tw ks it w'))
    {w : World} {K : List KT} {tw : Bool} (h : LG false fx w0 R vb M lo N w K tw [] []) (hn : 2 * K.length + 2 ≤ n) :
    Calls Tryz.prog 209 #[.pointer (some ⟨R, 0, none⟩), .string ⟨#[93]⟩, .func (.func 211) #[] #[.pointer (some ⟨vb, 0, none⟩), .pointer (some ⟨ob, 0, none⟩)]] w fun e w' => e = .returned (.tuple #[]) ∧ LP false fx w0 R vb M lo N n K tw w' := by
  have his0 := is_any h.rd ⟨#[93]⟩
  have hRl := h.rd.lt
  have htl : ∀ K' : List KT, kw K'.tail ≤ kw K' := fun K' => by cases K' with | nil => exact Nat.le_refl _ | cons y t => obtain ⟨j, x⟩ := y; simp only [List.tail_cons, kw]; omega
  have HTL := Lib.hid htl
  have HS := Lib.hid hs
  have HM := Lib.hid hM
  have HG := Lib.hid h
  have HKN := Lib.hid hn
  clear htl h hs hM hn
  by_cases hd : K.head? = some (1, (⟨#[93]⟩ : ByteArray).data.toList)
  · rw [if_pos hd, decide_eq_true hd] at his0
    have HD := Lib.hid hd
    clear hd
    go_enter Tryz.func209, Tryz.ntmps209
    go_wp2_with (first | (go_at_call 163; refine his0.mono ?_; rintro e w1 ⟨rfl, g1, r1, _⟩))
    try simp only [Exit.inBlock, Exit.then]
    refine bodyPost_ret (results_none rfl _ _ _) rfl ?_
    have hl : lisP n false K = some (jn (if false then 6 else 5), K.tail) := if_pos HD.out
    refine ⟨rfl, fun v r hv => ?_, fun hv => by rw [hl] at hv; cases hv⟩
    rw [hl] at hv
    obtain ⟨rfl, rfl⟩ : jn (if false then 6 else 5) = v ∧ K.tail = r := by injection hv with hv; injection hv with a b; exact ⟨a, b⟩
    have e0 : (jn (if false then 6 else 5)).dup = false := rfl
    rw [e0, Bool.or_false]
    exact ⟨[], [], HG.out.go HS.out HM.out g1 r1 (HTL.out K), rfl⟩
  · rw [if_neg hd, decide_eq_false hd] at his0
    have hl : lisP n false K = itmP n false K [] [] := if_neg hd
    have HLI := Lib.hid hl
    clear hd hl
    go_enter Tryz.func209, Tryz.ntmps209
    go_wp2_with (first | (go_at_call 163; refine his0.mono ?_; rintro e w1 ⟨rfl, g1, r1, _⟩))
    have hstart : LI false fx w0 R vb M lo N n K tw w1 := .inl ⟨n - 1, K, [], [], by have := HKN.out; omega, by have := HKN.out; omega, rfl, by have := HKN.out; rw [show n - 1 + 1 = n by omega], by
      rw [show (tw || dupL false ([] : List JV) [] []) = tw by cases tw <;> rfl]
      exact HG.out.go HS.out HM.out g1 r1 (Nat.le_refl _)⟩
    clear g1 r1 his0
    go_loopw [] (fun wr => LI false fx w0 R vb M lo N n K tw wr) (fun wr => rdM wr R)
    case atStart => exact hstart
    case round =>
      rcases hrel with ⟨m, K', ks, it, hm, hK, hkl, hit, hLG⟩ | ⟨hnone, hLB⟩
      · have hone := HONE.out m hm wr K' _ ks it hLG hK
        have hmeas := hLG.rd.m
        obtain ⟨p, cc, q1, q2, q3, q4⟩ := hLG.rd
        obtain ⟨c0, c1, c2, cf⟩ := cells3 q1
        have HMS := Lib.hid hmeas
        have HLG := Lib.hid hLG
        have HIT := Lib.hid hit
        have HKL := Lib.hid hkl
        clear q1 q2 q3 q4 cf hmeas hLG hit hkl hstart
        go_upto_region 3 with (first | (go_at_call 211; refine hone.mono ?_; rintro e w1 ⟨rfl, hp1⟩))
        clear c0 c1 c2 hone
        by_cases hgood : ∃ key r2 v r3, keyP false K' = some (key, r2) ∧ valP m r2 = some (v, r3)
        · obtain ⟨key, r2, v, r3, hk, hv⟩ := hgood
          have hLG1 := hp1.good key r2 v r3 hk hv
          have hlen3 := (val_len m).1 _ _ _ hv
          have hlen2 : r2.length ≤ K'.length := by
            rcases keyP_some hk with ⟨ho, e⟩ | ⟨ho, _, e⟩
            · rw [e, List.length_cons, List.length_cons]; omega
            · rw [e]; exact Nat.le_refl _
          have hT : itmP (m + 1) false K' ks it = (if r3.head? = some (1, endK false) then some (lv false (ks ++ [key]) (it ++ [v]), r3.tail) else if r3.head? = some (1, [44]) then itmP m false r3.tail (ks ++ [key]) (it ++ [v]) else none) := by
            rw [itmP_succ, hk]
            dsimp only
            rw [hv]
          have hdup : (tw || dupL false it ks [] || (false && decide (key ∈ ks)) || v.dup) = (tw || dupL false (it ++ [v]) (ks ++ [key]) []) := by
            rw [dupL_snoc false it ks [] v key HKL.out]
            simp only [List.not_mem_nil, or_false, Bool.or_assoc]
          rw [hdup] at hLG1
          have his1 := is_any hLG1.rd ⟨#[93]⟩
          have HT := Lib.hid hT
          have HG1 := Lib.hid hLG1
          clear hT hdup hLG1 hp1 hk hv
          by_cases he : r3.head? = some (1, (⟨#[93]⟩ : ByteArray).data.toList)
          · rw [if_pos he, decide_eq_true he] at his1
            have HE := Lib.hid he
            clear he
            go_wp2_with (first | (go_at_call 163; refine his1.mono ?_; rintro e w2 ⟨rfl, g2, rr2, _⟩))
            try simp only [Exit.inBlock, Exit.then]
            refine bodyPost_ret (results_none rfl _ _ _) rfl ?_
            have hT2 := HT.out
            rw [if_pos (show r3.head? = some (1, endK false) from HE.out), HIT.out, ← HLI.out] at hT2
            refine ⟨rfl, fun v' r' hv' => ?_, fun hv' => by rw [hT2] at hv'; cases hv'⟩
            rw [hT2] at hv'
            obtain ⟨rfl, rfl⟩ : lv false (ks ++ [key]) (it ++ [v]) = v' ∧ r3.tail = r' := by injection hv' with hv'; injection hv' with a b; exact ⟨a, b⟩
            rw [lv_dup]
            exact ⟨_, _, HG1.out.go HS.out HM.out g2 rr2 (HTL.out r3), rfl⟩
          · rw [if_neg he, decide_eq_false he] at his1
            have HE := Lib.hid he
            clear he
            by_cases hcm : r3.head? = some (1, (⟨#[44]⟩ : ByteArray).data.toList)
            · have HC := Lib.hid hcm
              clear hcm
              go_wp2_with (first
                | (go_at_call 163; refine his1.mono ?_; rintro e w2 ⟨rfl, g2, rr2, _⟩; have his2 := is_any rr2 ⟨#[44]⟩; rw [if_pos HC.out, decide_eq_true HC.out] at his2; clear his1)
                | (go_at_call 163; refine his2.mono ?_; rintro e w3 ⟨rfl, g3, rr3, _⟩))
              go_roundw
              case rel =>
                have hT2 := HT.out
                rw [if_neg (show ¬ r3.head? = some (1, endK false) from HE.out), if_pos (show r3.head? = some (1, [44]) from HC.out), HIT.out] at hT2
                have hr3 : r3.length = r3.tail.length + 1 := by
                  cases r3 with
                  | nil => exact absurd HC.out (by simp)
                  | cons y t => rfl
                refine .inl ⟨m - 1, r3.tail, ks ++ [key], it ++ [v], by omega, by omega, by rw [List.length_append, List.length_append, HKL.out]; rfl, by rw [show m - 1 + 1 = m by omega]; exact hT2.symm, ?_⟩
                exact (HG1.out.go HS.out HM.out g2 rr2 (Nat.le_refl _)).go HS.out HM.out g3 rr3 (HTL.out r3)
              case measure =>
                rw [rr3.m, HMS.out]
                simp only [Bool.false_eq_true, if_false, List.length_tail]
                omega
            · have HC := Lib.hid hcm
              clear hcm
              go_wp2_with (first
                | (go_at_call 163; refine his1.mono ?_; rintro e w2 ⟨rfl, g2, rr2, _⟩; have his2 := is_any rr2 ⟨#[44]⟩; rw [if_neg HC.out, decide_eq_false HC.out] at his2; clear his1)
                | (go_at_call 163; refine his2.mono ?_; rintro e w3 ⟨rfl, g3, rr3, _⟩
                   have HR3 := Lib.hid rr3
                   obtain ⟨p3, cc3, q1, q2, q3, q4⟩ := rr3
                   obtain ⟨c0, c1, c2, cf⟩ := cells3 q1
                   have cf1 := cf 1
                   clear q1 q2 q3 q4 cf))
              go_roundw
              case rel =>
                have hT2 := HT.out
                rw [if_neg (show ¬ r3.head? = some (1, endK false) from HE.out), if_neg (show ¬ r3.head? = some (1, [44]) from HC.out), HIT.out] at hT2
                exact .inr ⟨hT2, LG.fall HS.out ((HG1.out.go HS.out HM.out g2 rr2 (Nat.le_refl _)).go HS.out HM.out g3 HR3.out (Nat.le_refl _)) (gb_set w3 R 1 _) HR3.out.fall⟩
              case measure =>
                rw [HR3.out.fall.m, HMS.out]
                simp
        · have hnone : ∀ key r2, keyP false K' = some (key, r2) → valP m r2 = none := fun key r2 hk => by
            cases hv : valP m r2 with
            | none => rfl
            | some y => exact absurd ⟨key, r2, y.1, y.2, hk, hv⟩ hgood
          have hLB1 := hp1.bad hnone
          have hT : itmP (m + 1) false K' ks it = none := by
            rw [itmP_succ]
            split
            · rfl
            · rename_i key r2 hk
              rw [hnone key r2 hk]
          rw [HIT.out] at hT
          have HT := Lib.hid hT
          obtain ⟨K1, tw1, rr1⟩ := hLB1.rd
          have his1 := is_any rr1 ⟨#[93]⟩
          have HB1 := Lib.hid hLB1
          clear hT hLB1 hp1 hgood hnone
          by_cases he : K1.head? = some (1, (⟨#[93]⟩ : ByteArray).data.toList)
          · rw [decide_eq_true he] at his1
            clear he
            go_wp2_with (first | (go_at_call 163; refine his1.mono ?_; rintro e w2 ⟨rfl, g2, rr2, _⟩))
            try simp only [Exit.inBlock, Exit.then]
            refine bodyPost_ret (results_none rfl _ _ _) rfl ?_
            exact ⟨rfl, fun v' r' hv' => (by rw [HLI.out, HT.out] at hv'; cases hv'), fun _ => HB1.out.go HS.out g2 rr2⟩
          · rw [decide_eq_false he, if_neg he] at his1
            clear he
            by_cases hcm : K1.head? = some (1, (⟨#[44]⟩ : ByteArray).data.toList)
            · have HC := Lib.hid hcm
              clear hcm
              go_wp2_with (first
                | (go_at_call 163; refine his1.mono ?_; rintro e w2 ⟨rfl, g2, rr2, _⟩; have his2 := is_any rr2 ⟨#[44]⟩; rw [if_pos HC.out, decide_eq_true HC.out] at his2; clear his1)
                | (go_at_call 163; refine his2.mono ?_; rintro e w3 ⟨rfl, g3, rr3, _⟩))
              go_roundw
              case rel => exact .inr ⟨HT.out, (HB1.out.go HS.out g2 rr2).go HS.out g3 rr3⟩
              case measure => rw [rr3.m, HMS.out]; simp
            · have HC := Lib.hid hcm
              clear hcm
              go_wp2_with (first
                | (go_at_call 163; refine his1.mono ?_; rintro e w2 ⟨rfl, g2, rr2, _⟩; have his2 := is_any rr2 ⟨#[44]⟩; rw [if_neg HC.out, decide_eq_false HC.out] at his2; clear his1)
                | (go_at_call 163; refine his2.mono ?_; rintro e w3 ⟨rfl, g3, rr3, _⟩
                   have HR3 := Lib.hid rr3
                   obtain ⟨p3, cc3, q1, q2, q3, q4⟩ := rr3
                   obtain ⟨c0, c1, c2, cf⟩ := cells3 q1
                   have cf1 := cf 1
                   clear q1 q2 q3 q4 cf))
              go_roundw
              case rel => exact .inr ⟨HT.out, ((HB1.out.go HS.out g2 rr2).go HS.out g3 HR3.out).go HS.out (gb_set w3 R 1 _) HR3.out.fall⟩
              case measure => rw [HR3.out.fall.m, HMS.out]; simp
      · obtain ⟨K1, tw1, rr1⟩ := hLB.rd
        obtain ⟨p, cc, q1, q2, q3, q4⟩ := rr1
        obtain ⟨c0, c1, c2, cf⟩ := cells3 q1
        have HB1 := Lib.hid hLB
        have HN1 := Lib.hid hnone
        clear q1 q2 q3 q4 cf hLB hnone hstart
        go_wp2_with fail
        go_end0
        exact ⟨rfl, fun v' r' hv' => (by rw [HLI.out, HN1.out] at hv'; cases hv'), fun _ => HB1.out⟩
end Go.Proofs.Jt
/- V22: The reader: object, array. -/
namespace Go.Proofs.Jt
open Go.RowKit Go.Maps Go.Lib Go.Proofs.Utf Go.Proofs

theorem alloc_at (w : World) (o : Obj) : (w.alloc o).heap[w.heap.size]? = some o := World.alloc_heap_new w o
theorem alloc_old {w : World} {k : Nat} {x : Obj} (o : Obj) (h : w.heap[k]? = some x) : (w.alloc o).heap[k]? = some x :=
  (((Below.refl w.heap.size w).alloc (Nat.le_refl _) o).block k (Array.getElem?_eq_some_iff.1 h).1).trans h
theorem alloc_len (w : World) (o : Obj) : (w.alloc o).heap.size = w.heap.size + 1 := by simp
theorem LV.start {w : World} {vb lo : Nat} {k : Int} (h : w.heap[vb]? = some (.cells #[.int .i64 k, .string ⟨#[]⟩, .slice none 0 0, .slice none 0 0] 25 (0, 0))) : LV w vb lo k [] [] (.slice none 0 0) (.slice none 0 0) :=
  ⟨h, World.ownsRow_nil _ _ _ _, World.ownsRow_nil _ _ _ _, fun c hc => by cases hc⟩
/-- a value's row out of a list that has been read -/
theorem LG.value {o : Bool} {fx : List (Nat × Obj)} {w0 : World} {R vb M lo N : Nat} {w : World} {K : List KT} {tw : Bool} {ks : List (List UInt8)} {it : List JV} (h : LG o fx w0 R vb M lo N w K tw ks it) (hN : N ≤ 100000000) :
    ∃ kp kc ip ic nk ni, w.heap[vb]? = some (.cells #[.int .i64 (if o then 6 else 5), .string ⟨#[]⟩, .slice kp nk kc, .slice ip ni ic] 25 (0, 0)) ∧ jval (lv o ks it) kp kc ip ic = .agg #[.int .i64 (if o then 6 else 5), .string ⟨#[]⟩, .slice kp nk kc, .slice ip ni ic] ∧ KP w (lo ≤ ·) (lv o ks it) kp kc ip ic := by
  obtain ⟨L, kv, iv, h1, h2⟩ := h.v
  have hwt := h.wt
  have hil := items_len it
  have hll : L.length = it.length := by rw [← h2, List.length_map]
  have hks : (if o then ks else []).length ≤ 100000000 ∧ ∀ s ∈ (if o then ks else []), s.length ≤ 100000000 := by
    cases o with
    | false => exact ⟨Nat.zero_le _, fun s hs => by cases hs⟩
    | true =>
      simp only [if_true] at hwt ⊢
      have := keys_len ks
      exact ⟨by omega, fun s hs => by have := keysW_mem hs; omega⟩
  obtain ⟨kp, kc, ip, ic, rfl, rfl, hk⟩ := KP.build (k := if o then 6 else 5) h1.rk h1.ri (fun c hc => ⟨(h1.ch c hc).1.keep (Nat.le_refl _) (fun _ _ _ => rfl) fun b hb _ => ⟨hb.1, hb.2.1⟩, (h1.ch c hc).2⟩) ⟨by unfold maxLen; omega, by unfold maxLen; omega, fun s hs => by have := hks.2 s hs; unfold maxLen; omega⟩
  rw [h2] at hk
  refine ⟨kp, kc, ip, ic, _, _, h1.hd, ?_, hk⟩
  unfold jval lv
  rw [kind_mk, str_mk, keys_mk, items_mk, hll]
theorem JBox.fx {w : World} {z : Nat} {a b c d : Value} (h : w.heap[z]? = some (.cells #[a, b, c, d] 25 (0, 0))) : JBox w z := ⟨a, b, c, d, h⟩
/-- the end of object and of array: the value is put into the result's box -/
theorem LP.post {o : Bool} {fx : List (Nat × Obj)} {w w6 W7 : World} {R vb M lo N n z : Nat} {K : List KT} {tw : Bool} (hs : LS fx w R vb M lo) (hz : w.heap.size ≤ z) (hzl : z < lo) (_hzv : z ≠ vb) (h : LP o fx w R vb M lo N n K tw w6) (hN : N ≤ 100000000) (g7 : w6.grownBy W7 (some z))
    {k : Int} {S : ByteArray} {p p' : Option Addr} {nk c nk' c' : Nat} (hv : w6.heap[vb]? = some (.cells #[.int .i64 k, .string S, .slice p nk c, .slice p' nk' c'] 25 (0, 0))) :
    VP w R tw (lisP n o K) k S p nk c p' nk' c' W7 := by
  have h1 := hs.rlt
  have hb : ∀ {fr : w.grownBy w6 (some R)}, w.grownBy W7 (some R) := fun {fr} => fr.andThen g7 fun j e => .inl (by cases e; exact hz)
  cases hl : lisP n o K with
  | some y =>
    obtain ⟨v, r⟩ := y
    obtain ⟨ks, it, hg, rfl⟩ := h.good v r hl
    obtain ⟨kp, kc, ip, ic, nk1, ni1, e1, e2, e3⟩ := hg.value hN
    rw [hv] at e1
    injection e1 with e1
    injection e1 with e1
    have e4 := Array.toList_inj.2 e1
    simp only [List.cons.injEq, Value.int.injEq, Value.string.injEq, Value.slice.injEq, and_true, true_and] at e4
    obtain ⟨rfl, rfl, ⟨rfl, rfl, rfl⟩, rfl, rfl, rfl⟩ := e4
    refine ⟨hb (fr := hg.fr), fun v' r' hv' => ?_, fun h => by cases h⟩
    cases hv'
    refine ⟨hg.rd.kept g7 (by omega), e2, e3.keep g7.size (fun b hb hl => g7.block b hl (fun e => by have := Option.some.inj e; omega)) (fun b hb _ => by omega), by unfold lv maxLen; rw [str_mk]; simp⟩
  | none =>
    have hB := h.bad hl
    obtain ⟨K', tw', hr⟩ := hB.rd
    exact ⟨hb (fr := hB.fr), fun v r h => (by cases h), fun _ => ⟨K', tw', hr.kept g7 (by omega)⟩⟩
theorem object_start {w : World} {R : Nat} {K : List KT} {tw : Bool} (h : RD w R K false tw) :
    ∃ fx, (w.heap.size, Obj.cells #[.pointer (some ⟨R, 0, none⟩)] 168 (0, 0)) ∈ fx ∧ (w.heap.size + 1 + 1 + 1 + 1, Obj.cells #[.map (some (w.heap.size + 1 + 1 + 1))] 211 (0, 0)) ∈ fx ∧ (w.heap.size + 1, Obj.cells #[.int .i64 0, .string ⟨#[]⟩, .slice none 0 0, .slice none 0 0] 25 (0, 0)) ∈ fx ∧
      LS fx w R (w.heap.size + 1 + 1) (w.heap.size + 1 + 1 + 1) (w.heap.size + 1 + 1 + 1 + 1 + 1) ∧
      LG true fx w R (w.heap.size + 1 + 1) (w.heap.size + 1 + 1 + 1) (w.heap.size + 1 + 1 + 1 + 1 + 1) (kw K)
        (((((w.alloc (.cells #[.pointer (some ⟨R, 0, none⟩)] 168)).alloc (.cells #[.int .i64 0, .string ⟨#[]⟩, .slice none 0 0, .slice none 0 0] 25)).alloc (.cells #[.int .i64 6, .string ⟨#[]⟩, .slice none 0 0, .slice none 0 0] 25)).alloc (.map #[] 0)).alloc (.cells #[.map (some (w.heap.size + 1 + 1 + 1))] 211)) K tw [] [] := by
  obtain ⟨W1, hW1⟩ : ∃ W, w.alloc (.cells #[.pointer (some ⟨R, 0, none⟩)] 168) = W := ⟨_, rfl⟩
  obtain ⟨W2, hW2⟩ : ∃ W, W1.alloc (.cells #[.int .i64 0, .string ⟨#[]⟩, .slice none 0 0, .slice none 0 0] 25) = W := ⟨_, rfl⟩
  obtain ⟨W3, hW3⟩ : ∃ W, W2.alloc (.cells #[.int .i64 6, .string ⟨#[]⟩, .slice none 0 0, .slice none 0 0] 25) = W := ⟨_, rfl⟩
  obtain ⟨W4, hW4⟩ : ∃ W, W3.alloc (.map #[] 0) = W := ⟨_, rfl⟩
  have z1 : W1.heap.size = w.heap.size + 1 := by rw [← hW1, alloc_len]
  have z2 : W2.heap.size = w.heap.size + 1 + 1 := by rw [← hW2, alloc_len, z1]
  have z3 : W3.heap.size = w.heap.size + 1 + 1 + 1 := by rw [← hW3, alloc_len, z2]
  have z4 : W4.heap.size = w.heap.size + 1 + 1 + 1 + 1 := by rw [← hW4, alloc_len, z3]
  rw [hW1, hW2, hW3, hW4]
  obtain ⟨W5, hW5⟩ : ∃ W, W4.alloc (.cells #[.map (some (w.heap.size + 1 + 1 + 1))] 211) = W := ⟨_, rfl⟩
  have z5 : W5.heap.size = w.heap.size + 1 + 1 + 1 + 1 + 1 := by rw [← hW5, alloc_len, z4]
  rw [hW5]
  have hR := h.lt
  have a1 : W5.heap[w.heap.size]? = some (.cells #[.pointer (some ⟨R, 0, none⟩)] 168 (0, 0)) := by
    rw [← hW5, ← hW4, ← hW3, ← hW2, ← hW1]; exact alloc_old _ (alloc_old _ (alloc_old _ (alloc_old _ (alloc_at _ _))))
  have a2 : W5.heap[w.heap.size + 1]? = some (.cells #[.int .i64 0, .string ⟨#[]⟩, .slice none 0 0, .slice none 0 0] 25 (0, 0)) := by
    rw [← z1, ← hW5, ← hW4, ← hW3, ← hW2]; exact alloc_old _ (alloc_old _ (alloc_old _ (alloc_at _ _)))
  have a3 : W5.heap[w.heap.size + 1 + 1]? = some (.cells #[.int .i64 6, .string ⟨#[]⟩, .slice none 0 0, .slice none 0 0] 25 (0, 0)) := by
    rw [← z2, ← hW5, ← hW4, ← hW3]; exact alloc_old _ (alloc_old _ (alloc_at _ _))
  have a5 : W5.heap[w.heap.size + 1 + 1 + 1 + 1]? = some (.cells #[.map (some (w.heap.size + 1 + 1 + 1))] 211 (0, 0)) := by
    rw [← z4, ← hW5]; exact alloc_at _ _
  have m4 : MetC W4 (w.heap.size + 1 + 1 + 1) [] := by rw [← z3, ← hW4]; exact MetC.made W3
  have m5 : MetC W5 (w.heap.size + 1 + 1 + 1) [] := by rw [← hW5]; exact m4.kept (row := none) (World.grownBy_alloc W4 _ none) (by simp)
  have bW : Below w.heap.size w W5 := by
    rw [← hW5, ← hW4, ← hW3, ← hW2, ← hW1]
    exact (((((Below.refl _ _).alloc (Nat.le_refl _) _).alloc (by simp) _).alloc (by simp; omega) _).alloc (by simp; omega) _).alloc (by simp; omega) _
  refine ⟨[(w.heap.size, .cells #[.pointer (some ⟨R, 0, none⟩)] 168 (0, 0)), (w.heap.size + 1 + 1 + 1 + 1, .cells #[.map (some (w.heap.size + 1 + 1 + 1))] 211 (0, 0)), (w.heap.size + 1, .cells #[.int .i64 0, .string ⟨#[]⟩, .slice none 0 0, .slice none 0 0] 25 (0, 0))], by simp, by simp, by simp, ⟨hR, by omega, by omega, fun x hx => ?_⟩, ⟨gb_below bW, h.below bW, fun x hx => ?_, ⟨[], _, _, LV.start a3, rfl⟩, fun _ => m5, by simp [wtL, keysW], by omega⟩⟩
  · simp only [List.mem_cons, List.not_mem_nil, or_false] at hx
    rcases hx with rfl | rfl | rfl <;> dsimp only <;> omega
  · simp only [List.mem_cons, List.not_mem_nil, or_false] at hx
    rcases hx with rfl | rfl | rfl
    · exact a1
    · exact a5
    · exact a2
theorem array_start {w : World} {R : Nat} {K : List KT} {tw : Bool} (h : RD w R K false tw) :
    ∃ fx, (w.heap.size + 1 + 1, Obj.cells #[.func (.func 112) #[.pointer (some ⟨R, 0, none⟩)] #[]] 121 (0, 0)) ∈ fx ∧ (w.heap.size, Obj.cells #[.int .i64 0, .string ⟨#[]⟩, .slice none 0 0, .slice none 0 0] 25 (0, 0)) ∈ fx ∧
      LS fx w R (w.heap.size + 1) R (w.heap.size + 1 + 1 + 1) ∧
      LG false fx w R (w.heap.size + 1) R (w.heap.size + 1 + 1 + 1) (kw K)
        (((w.alloc (.cells #[.int .i64 0, .string ⟨#[]⟩, .slice none 0 0, .slice none 0 0] 25)).alloc (.cells #[.int .i64 5, .string ⟨#[]⟩, .slice none 0 0, .slice none 0 0] 25)).alloc (.cells #[.func (.func 112) #[.pointer (some ⟨R, 0, none⟩)] #[]] 121)) K tw [] [] := by
  obtain ⟨W1, hW1⟩ : ∃ W, w.alloc (.cells #[.int .i64 0, .string ⟨#[]⟩, .slice none 0 0, .slice none 0 0] 25) = W := ⟨_, rfl⟩
  obtain ⟨W2, hW2⟩ : ∃ W, W1.alloc (.cells #[.int .i64 5, .string ⟨#[]⟩, .slice none 0 0, .slice none 0 0] 25) = W := ⟨_, rfl⟩
  have z1 : W1.heap.size = w.heap.size + 1 := by rw [← hW1, alloc_len]
  have z2 : W2.heap.size = w.heap.size + 1 + 1 := by rw [← hW2, alloc_len, z1]
  rw [hW1, hW2]
  obtain ⟨W5, hW5⟩ : ∃ W, W2.alloc (.cells #[.func (.func 112) #[.pointer (some ⟨R, 0, none⟩)] #[]] 121) = W := ⟨_, rfl⟩
  have z5 : W5.heap.size = w.heap.size + 1 + 1 + 1 := by rw [← hW5, alloc_len, z2]
  rw [hW5]
  have hR := h.lt
  have a1 : W5.heap[w.heap.size]? = some (.cells #[.int .i64 0, .string ⟨#[]⟩, .slice none 0 0, .slice none 0 0] 25 (0, 0)) := by
    rw [← hW5, ← hW2, ← hW1]; exact alloc_old _ (alloc_old _ (alloc_at _ _))
  have a2 : W5.heap[w.heap.size + 1]? = some (.cells #[.int .i64 5, .string ⟨#[]⟩, .slice none 0 0, .slice none 0 0] 25 (0, 0)) := by
    rw [← z1, ← hW5, ← hW2]; exact alloc_old _ (alloc_at _ _)
  have a3 : W5.heap[w.heap.size + 1 + 1]? = some (.cells #[.func (.func 112) #[.pointer (some ⟨R, 0, none⟩)] #[]] 121 (0, 0)) := by
    rw [← z2, ← hW5]; exact alloc_at _ _
  have bW : Below w.heap.size w W5 := by
    rw [← hW5, ← hW2, ← hW1]
    exact (((Below.refl _ _).alloc (Nat.le_refl _) _).alloc (by simp) _).alloc (by simp; omega) _
  refine ⟨[(w.heap.size + 1 + 1, .cells #[.func (.func 112) #[.pointer (some ⟨R, 0, none⟩)] #[]] 121 (0, 0)), (w.heap.size, .cells #[.int .i64 0, .string ⟨#[]⟩, .slice none 0 0, .slice none 0 0] 25 (0, 0))], by simp, by simp, ⟨hR, by omega, by omega, fun x hx => ?_⟩, ⟨gb_below bW, h.below bW, fun x hx => ?_, ⟨[], _, _, LV.start a2, rfl⟩, fun h => (by cases h), by simp [wtL], by omega⟩⟩
  · simp only [List.mem_cons, List.not_mem_nil, or_false] at hx
    rcases hx with rfl | rfl <;> dsimp only <;> omega
  · simp only [List.mem_cons, List.not_mem_nil, or_false] at hx
    rcases hx with rfl | rfl
    · exact a3
    · exact a1
/-- where a list ends: its box and the result's -/
theorem LP.boxes {o : Bool} {fx : List (Nat × Obj)} {w0 w : World} {R vb M lo N n z : Nat} {K : List KT} {tw : Bool} {a b c d : Value} (h : LP o fx w0 R vb M lo N n K tw w) (hN : N ≤ 100000000) (hz : (z, Obj.cells #[a, b, c, d] 25 (0, 0)) ∈ fx) :
    JBox w z ∧ ∃ k S p nk c p' nk' c', w.heap[vb]? = some (.cells #[.int .i64 k, .string S, .slice p nk c, .slice p' nk' c'] 25 (0, 0)) := by
  cases hl : lisP n o K with
  | some y =>
    obtain ⟨ks, it, hg, _⟩ := h.good y.1 y.2 hl
    obtain ⟨kp, kc, ip, ic, nk, ni, e1, _⟩ := hg.value hN
    exact ⟨JBox.fx (hg.fx _ hz), _, _, _, _, _, _, _, _, e1⟩
  | none =>
    have hB := h.bad hl
    exact ⟨JBox.fx (hB.fx _ hz), hB.v⟩
theorem cells4 {w : World} {b : Nat} {v0 v1 v2 v3 : Value} {t : TypeId} (h : w.heap[b]? = some (.cells #[v0, v1, v2, v3] t (0, 0))) : w.cell? ⟨b, 0, none⟩ = some v0 ∧ w.cell? ⟨b, 1, none⟩ = some v1 ∧ w.cell? ⟨b, 2, none⟩ = some v2 ∧ w.cell? ⟨b, 3, none⟩ = some v3 := by
  refine ⟨?_, ?_, ?_, ?_⟩ <;> simp [World.cell?, h]
set_option maxRecDepth 100000 in
set_option maxHeartbeats 4000000 in
theorem object_any {n : Nat} (IH : ∀ m, m + 1 ≤ n → ValC m) {w : World} {R : Nat} {K : List KT} {tw : Bool} (h : RD w R K false tw) (hk : kw K ≤ 100000000) (hn : 2 * K.length + 2 ≤ n) :
    Calls Tryz.prog 164 #[.pointer (some ⟨R, 0, none⟩)] w (ValPost w R tw (lisP n true K)) := by
  obtain ⟨fx, f1, f2, f3, hs, hg⟩ := object_start h
  have hl := list_object hs (fun _ => by have := h.lt; omega) (Lib.hid fun m hm w K tw ks it hG hK => (object_one hs (by have := h.lt; omega) f1 f2 hk (IH m hm) hG (by omega)).mono fun e w' hp => ⟨hp.1, ⟨fun key r2 v r3 a b => hp.2.2.1 key r2 v r3 a b, hp.2.2.2⟩⟩) hg hn
  have HS := Lib.hid hs
  have HF := Lib.hid f3
  have HK := Lib.hid hk
  clear f1 f2 f3 hs hg h hk hn IH
  have hmm := @run_makeMap Tryz.prog
  go_enter Tryz.func164, Tryz.ntmps164
  go_wp2_with (first
    | (go_at_call 209; refine hl.mono ?_; rintro e w6 ⟨rfl, hp⟩
       obtain ⟨hbx, vk, vS, vp, vn, vc, vp', vn', vc', hv⟩ := hp.boxes HK.out HF.out
       obtain ⟨c0, c1, c2, c3⟩ := cells4 hv
       have HV := Lib.hid hv
       have HP := Lib.hid hp
       have HB := Lib.hid hbx
       clear hv hp hbx)
    | (refine store_val rfl (.tmp 2) (.tmp 10) rfl (w.heap.size + 1) rfl (.int .i64 vk) (.string vS) (.slice vp vn vc) (.slice vp' vn' vc') rfl rfl HB.out (fun V hV hgV _ => ?_)))
  refine bodyPost_ret (ret_val Tryz.results164 rfl hV) rfl ⟨vk, vS, vp, vn, vc, vp', vn', vc', rfl, ?_⟩
  exact LP.post HS.out (by omega) (by omega) (by omega) HP.out HK.out hgV HV.out
set_option maxRecDepth 100000 in
set_option maxHeartbeats 4000000 in
theorem array_any {n : Nat} (IH : ∀ m, m + 1 ≤ n → ValC m) {w : World} {R : Nat} {K : List KT} {tw : Bool} (h : RD w R K false tw) (hk : kw K ≤ 100000000) (hn : 2 * K.length + 2 ≤ n) :
    Calls Tryz.prog 165 #[.pointer (some ⟨R, 0, none⟩)] w (ValPost w R tw (lisP n false K)) := by
  obtain ⟨fx, f1, f3, hs, hg⟩ := array_start h
  have hl := list_array hs (fun h => (by cases h)) (Lib.hid fun m hm w K tw ks it hG hK => (array_one hs f1 hk (IH m hm) hG (by omega)).mono fun e w' hp => ⟨hp.1, ⟨fun key r2 v r3 a b => by
    rcases keyP_some a with ⟨h, _⟩ | ⟨_, rfl, rfl⟩
    · cases h
    · simpa using hp.2.2.1 v r3 b, fun hx => hp.2.2.2 (hx [] K rfl)⟩⟩) hg hn
  have HS := Lib.hid hs
  have HF := Lib.hid f3
  have HK := Lib.hid hk
  clear f1 f3 hs hg h hk hn IH
  go_enter Tryz.func165, Tryz.ntmps165
  go_wp2_with (first
    | (go_at_call 209; refine hl.mono ?_; rintro e w6 ⟨rfl, hp⟩
       obtain ⟨hbx, vk, vS, vp, vn, vc, vp', vn', vc', hv⟩ := hp.boxes HK.out HF.out
       obtain ⟨c0, c1, c2, c3⟩ := cells4 hv
       have HV := Lib.hid hv
       have HP := Lib.hid hp
       have HB := Lib.hid hbx
       clear hv hp hbx)
    | (refine store_val rfl (.tmp 2) (.tmp 11) rfl w.heap.size rfl (.int .i64 vk) (.string vS) (.slice vp vn vc) (.slice vp' vn' vc') rfl rfl HB.out (fun V hV hgV _ => ?_)))
  refine bodyPost_ret (ret_val Tryz.results165 rfl hV) rfl ⟨vk, vS, vp, vn, vc, vp', vn', vc', rfl, ?_⟩
  exact LP.post HS.out (by omega) (by omega) (by omega) HP.out HK.out hgV HV.out
end Go.Proofs.Jt
