/- Merged texts: VC, V23, VD. -/
import Derived.Test.YtaiaiiepbpbmmaaGreatDoorCmV18
import Derived.Deep.CutBlock
import Derived.Laws.ResultCell
/- VC: Merged texts: V19, V20, V21, V22. -/
/- V19: The reader: a list of items (list). -/
namespace Go.Proofs.Jt
open Go.RowKit Go.Maps Go.Lib Go.Proofs.Utf Go.Proofs

/-- what a closure of a list leaves -/
structure OneP (o : Bool) (fx : List (Nat × Obj)) (w0 : World) (R vb M lo N n : Nat) (K : List KT) (tw : Bool) (ks : List (List UInt8)) (it : List JV) (w' : World) : Prop where
 good : ∀ key r2 v r3, keyP o K = some (key, r2) → valP n r2 = some (v, r3) → LG o fx w0 R vb M lo N w' r3 (tw || (o && decide (key ∈ ks)) || v.dup) (ks ++ [key]) (it ++ [v])
 bad : (∀ key r2, keyP o K = some (key, r2) → valP n r2 = none) → LB fx w0 R vb w'
def LM (o : Bool) (R M : Nat) : Prop := o = true → R < M
theorem LG.go {o : Bool} {fx : List (Nat × Obj)} {w0 w w' : World} {R vb M lo N : Nat} {K K' : List KT} {tw : Bool} {ks : List (List UInt8)} {it : List JV} (hs : LS fx w0 R vb M lo) (hM : LM o R M) (h : LG o fx w0 R vb M lo N w K tw ks it) (hg : w.grownBy w' (some R)) (hr : RD w' R K' false tw) (hk : kw K' ≤ kw K) :
 LG o fx w0 R vb M lo N w' K' tw ks it := by
 have h1 := hs.rlt
 have h2 := hs.vlt
 obtain ⟨L, kv, iv, h3, h4⟩ := h.v
 have F : FrP (fun k => k = R) w w' := FrP.of hg rfl
 have FT : FrP (ClP R vb M lo) w w' := FrP.of hg (.inl rfl)
 have hwt := h.wt
 exact ⟨gb_cl hs h.fr FT, hr, fx_cl hs h.fx FT, ⟨L, kv, iv, h3.fr F (by omega) (fun b hb => by omega), h4⟩, fun ho => (h.met ho).kept hg (fun e => absurd (Option.some.inj e) (Nat.ne_of_gt (hM ho))), by omega, Nat.le_trans h.sz hg.size⟩
theorem LB.go {fx : List (Nat × Obj)} {w0 w w' : World} {R vb M lo : Nat} {K' : List KT} {tw : Bool} (hs : LS fx w0 R vb M lo) (h : LB fx w0 R vb w) (hg : w.grownBy w' (some R)) (hr : RD w' R K' true tw) : LB fx w0 R vb w' := by
 have h1 := hs.rlt
 have h2 := hs.vlt
 obtain ⟨k, S, p, n, c, p', n', c', h3⟩ := h.v
 have FT : FrP (ClP R vb M lo) w w' := FrP.of hg (.inl rfl)
 exact ⟨gb_cl hs h.fr FT, ⟨_, _, hr⟩, fx_cl hs h.fx FT, k, S, p, n, c, p', n', c', (hg.block vb (ltS h3) (fun e => by have := Option.some.inj e; omega)).trans h3⟩
/-- a reader that falls -/
theorem LG.fall {o : Bool} {fx : List (Nat × Obj)} {w0 w w' : World} {R vb M lo N : Nat} {K K' : List KT} {tw tw' : Bool} {ks : List (List UInt8)} {it : List JV} (hs : LS fx w0 R vb M lo) (h : LG o fx w0 R vb M lo N w K tw ks it) (hg : w.grownBy w' (some R)) (hr : RD w' R K' true tw') : LB fx w0 R vb w' := by
 have h1 := hs.rlt
 have h2 := hs.vlt
 obtain ⟨L, kv, iv, h3, h4⟩ := h.v
 have FT : FrP (ClP R vb M lo) w w' := FrP.of hg (.inl rfl)
 obtain ⟨p1, c1, e1⟩ := row_form h3.rk
 obtain ⟨p2, c2, e2⟩ := row_form h3.ri
 have hd := h3.hd
 rw [e1, e2] at hd
 exact ⟨gb_cl hs h.fr FT, ⟨_, _, hr⟩, fx_cl hs h.fx FT, _, _, _, _, _, _, _, _, (hg.block vb (ltS hd) (fun e => by have := Option.some.inj e; omega)).trans hd⟩
/-- how much a reader has to read -/
def rdM (w : World) (R : Nat) : Nat := match w.heap[R]? with
 | some (.cells cs _ _) => match cs.toList with
  | [.slice _ n _, .bool b, _] => if b then 0 else n + 1
  | _ => 0
 | _ => 0
theorem RD.m {w : World} {R : Nat} {K : List KT} {bad tw : Bool} (h : RD w R K bad tw) : rdM w R = if bad then 0 else K.length + 1 := by
 obtain ⟨p, c, h1, _⟩ := h
 unfold rdM
 rw [h1]
theorem dupL_snoc (o : Bool) : ∀ (it : List JV) (ks : List (List UInt8)) (met : List (List UInt8)) (v : JV) (key : List UInt8), ks.length = it.length → dupL o (it ++ [v]) (ks ++ [key]) met = (dupL o it ks met || ((o && decide (key ∈ ks ∨ key ∈ met)) || v.dup))
 | [], [], met, v, key, _ => by simp [dupL]
 | [], k :: t, met, v, key, h => by cases h
 | x :: t, [], met, v, key, h => by cases h
 | x :: t, k :: u, met, v, key, h => by
  rw [List.cons_append, List.cons_append, dupL, dupL, List.headD_cons, List.headD_cons, List.tail_cons, List.tail_cons, dupL_snoc o t u (k :: met) v key (by simpa using h)]
  have e : decide (key ∈ u ∨ key ∈ k :: met) = decide (key ∈ k :: u ∨ key ∈ met) := decide_eq_decide.2 (by simp only [List.mem_cons]; rw [or_left_comm, ← or_assoc])
  rw [e]
  cases o <;> cases decide (k ∈ met) <;> cases x.dup <;> cases dupL _ t u (k :: met) <;> rfl
theorem dupL_false : ∀ (it : List JV) (ks ks' met met' : List (List UInt8)), dupL false it ks met = dupL false it ks' met'
 | [], _, _, _, _ => by rw [dupL, dupL]
 | x :: t, ks, ks', met, met' => by
  rw [dupL, dupL, dupL_false t ks.tail ks'.tail _ (ks'.headD [] :: met')]
  rfl
/-- what the words of a list say -/
def lisP (n : Nat) (o : Bool) (K : List KT) : Option (JV × List KT) := if K.head? = some (1, endK o) then some (jn (if o then 6 else 5), K.tail) else itmP n o K [] []
def lv (o : Bool) (ks : List (List UInt8)) (it : List JV) : JV := .mk (if o then 6 else 5) [] (if o then ks else []) it
theorem lv_dup (o : Bool) (ks : List (List UInt8)) (it : List JV) : (lv o ks it).dup = dupL o it ks [] := by
 unfold lv
 rw [JV.dup]
 cases o with
 | true => rfl
 | false => exact dupL_false _ _ _ _ _
/-- what a list's reading leaves -/
structure LP (o : Bool) (fx : List (Nat × Obj)) (w0 : World) (R vb M lo N n : Nat) (K : List KT) (tw : Bool) (w' : World) : Prop where
 good : ∀ v r, lisP n o K = some (v, r) → ∃ ks it, LG o fx w0 R vb M lo N w' r (tw || v.dup) ks it ∧ v = lv o ks it
 bad : lisP n o K = none → LB fx w0 R vb w'
/-- where the loop stands -/
def LI (o : Bool) (fx : List (Nat × Obj)) (w0 : World) (R vb M lo N n : Nat) (K : List KT) (tw : Bool) (w : World) : Prop :=
 (∃ m K' ks it, m + 1 ≤ n ∧ 2 * K'.length + 2 ≤ m + 1 ∧ ks.length = it.length ∧ itmP (m + 1) o K' ks it = itmP n o K [] [] ∧ LG o fx w0 R vb M lo N w K' (tw || dupL o it ks []) ks it) ∨ (itmP n o K [] [] = none ∧ LB fx w0 R vb w)
theorem itmP_succ (m : Nat) (o : Bool) (K : List KT) (ks : List (List UInt8)) (it : List JV) : itmP (m + 1) o K ks it = match keyP o K with
 | none => none
 | some (key, r2) => match valP m r2 with
  | none => none
  | some (v, r3) =>
   if r3.head? = some (1, endK o) then some (lv o (ks ++ [key]) (it ++ [v]), r3.tail)
   else if r3.head? = some (1, [44]) then itmP m o r3.tail (ks ++ [key]) (it ++ [v])
   else none := by
 rw [itmP]
 rfl
theorem val_len : ∀ n : Nat, (∀ (l : List KT) (v : JV) (r : List KT), valP n l = some (v, r) → r.length < l.length) ∧
 (∀ (o : Bool) (l : List KT) (ks : List (List UInt8)) (it : List JV) (v : JV) (r : List KT), itmP n o l ks it = some (v, r) → r.length < l.length)
 | 0 => ⟨fun l v r h => (by rw [valP] at h; cases h), fun o l ks it v r h => by rw [itmP] at h; cases h⟩
 | n + 1 => by
  obtain ⟨ih1, ih2⟩ := val_len n
  refine ⟨fun l v r h => ?_, fun o l ks it v r h => ?_⟩
  · cases l with
    | nil => rw [valP] at h; cases h
    | cons t l =>
     obtain ⟨k, x⟩ := t
     rw [valP_cons] at h
     rw [List.length_cons]
     have hend : ∀ (e : List UInt8) (w : JV) (b : Bool), (if l.head? = some (1, e) then some (w, l.tail) else itmP n b l [] []) = some (v, r) → r.length < l.length + 1 := fun e w b h => by
      split at h
      · cases h
        rw [List.length_tail]
        omega
      · have := ih2 b l [] [] v r h
        omega
     split at h
     · split at h
       · cases h; omega
       · split at h
         · cases h; omega
         · split at h
           · cases h; omega
           · cases h
     · split at h
       · cases h; omega
       · split at h
         · cases h; omega
         · split at h
           · exact hend _ _ _ h
           · split at h
             · exact hend _ _ _ h
             · cases h
  · rw [itmP] at h
    split at h
    · cases h
    · rename_i key r2 hkey
      have hl2 : r2.length ≤ l.length := by
       rcases keyP_some hkey with ⟨ho, e⟩ | ⟨ho, _, e⟩
       · rw [e, List.length_cons, List.length_cons]; omega
       · rw [e]; exact Nat.le_refl _
      split at h
      · cases h
      · rename_i w r3 hv
        have h1 := ih1 r2 w r3 hv
        split at h
        · cases h
          rw [List.length_tail]
          omega
        · split at h
          · have h9 := ih2 o r3.tail _ _ v r h
            rw [List.length_tail] at h9
            omega
          · cases h
end Go.Proofs.Jt
/- V20: The reader: list with the closure of object. -/
namespace Go.Proofs.Jt
open Go.RowKit Go.Maps Go.Lib Go.Proofs.Utf Go.Proofs

set_option maxRecDepth 100000 in
set_option maxHeartbeats 4000000 in
theorem list_object {fx : List (Nat × Obj)} {w0 : World} {R vb M lo N n bb bm : Nat} (hs : LS fx w0 R vb M lo) (hM : LM true R M)
 (HONE : Hid (∀ m, m + 1 ≤ n → ∀ (w : World) (K : List KT) (tw : Bool) (ks : List (List UInt8)) (it : List JV), LG true fx w0 R vb M lo N w K tw ks it → 2 * K.length + 2 ≤ m + 1 → Calls Tryz.prog 210 #[.pointer (some ⟨bb, 0, none⟩), .pointer (some ⟨bm, 0, none⟩), .pointer (some ⟨vb, 0, none⟩)] w fun e w' => e = .returned (.tuple #[]) ∧ OneP true fx w0 R vb M lo N m K tw ks it w'))
 {w : World} {K : List KT} {tw : Bool} (h : LG true fx w0 R vb M lo N w K tw [] []) (hn : 2 * K.length + 2 ≤ n) :
 Calls Tryz.prog 209 #[.pointer (some ⟨R, 0, none⟩), .string ⟨#[125]⟩, .func (.func 210) #[] #[.pointer (some ⟨bb, 0, none⟩), .pointer (some ⟨bm, 0, none⟩), .pointer (some ⟨vb, 0, none⟩)]] w fun e w' => e = .returned (.tuple #[]) ∧ LP true fx w0 R vb M lo N n K tw w' := by
 have his0 := is_any h.rd ⟨#[125]⟩
 have hRl := h.rd.lt
 have htl : ∀ K' : List KT, kw K'.tail ≤ kw K' := fun K' => by cases K' with | nil => exact Nat.le_refl _ | cons y t => obtain ⟨j, x⟩ := y; simp only [List.tail_cons, kw]; omega
 have HTL := Lib.hid htl
 have HS := Lib.hid hs
 have HM := Lib.hid hM
 have HG := Lib.hid h
 have HKN := Lib.hid hn
 clear htl h hs hM hn
 by_cases hd : K.head? = some (1, (⟨#[125]⟩ : ByteArray).data.toList)
 · rw [if_pos hd, decide_eq_true hd] at his0
   have HD := Lib.hid hd
   clear hd
   go_enter Tryz.func209, Tryz.ntmps209
   go_wp2_with (first | (go_at_call 163; refine his0.mono ?_; rintro e w1 ⟨rfl, g1, r1, _⟩))
   try simp only [Exit.inBlock, Exit.then]
   refine bodyPost_ret (results_none rfl _ _ _) rfl ?_
   have hl : lisP n true K = some (jn (if true then 6 else 5), K.tail) := if_pos HD.out
   refine ⟨rfl, fun v r hv => ?_, fun hv => by rw [hl] at hv; cases hv⟩
   rw [hl] at hv
   obtain ⟨rfl, rfl⟩ : jn (if true then 6 else 5) = v ∧ K.tail = r := by injection hv with hv; injection hv with a b; exact ⟨a, b⟩
   have e0 : (jn (if true then 6 else 5)).dup = false := rfl
   rw [e0, Bool.or_false]
   exact ⟨[], [], HG.out.go HS.out HM.out g1 r1 (HTL.out K), rfl⟩
 · rw [if_neg hd, decide_eq_false hd] at his0
   have hl : lisP n true K = itmP n true K [] [] := if_neg hd
   have HLI := Lib.hid hl
   clear hd hl
   go_enter Tryz.func209, Tryz.ntmps209
   go_wp2_with (first | (go_at_call 163; refine his0.mono ?_; rintro e w1 ⟨rfl, g1, r1, _⟩))
   have hstart : LI true fx w0 R vb M lo N n K tw w1 := .inl ⟨n - 1, K, [], [], by have := HKN.out; omega, by have := HKN.out; omega, rfl, by have := HKN.out; rw [show n - 1 + 1 = n by omega], by
    rw [show (tw || dupL true ([] : List JV) [] []) = tw by cases tw <;> rfl]
    exact HG.out.go HS.out HM.out g1 r1 (Nat.le_refl _)⟩
   clear g1 r1 his0
   go_loopw [] (fun wr => LI true fx w0 R vb M lo N n K tw wr) (fun wr => rdM wr R)
   case atStart => exact hstart
   case round =>
    rcases hrel with ⟨m, K', ks, it, hm, hK, hkl, hit, hLG⟩ | ⟨hnone, hLB⟩
    · have hone := HONE.out m hm wr K' _ ks it hLG hK
      have hmeas := hLG.rd.m
      obtain ⟨p, cc, q1, q2, q3, q4⟩ := hLG.rd
      obtain ⟨c0, c1, c2, cf⟩ := cells3 q1
      have HMS := Lib.hid hmeas
      have HLG := Lib.hid hLG
      have HIT := Lib.hid hit
      have HKL := Lib.hid hkl
      clear q1 q2 q3 q4 cf hmeas hLG hit hkl hstart
      go_upto_region 3 with (first | (go_at_call 210; refine hone.mono ?_; rintro e w1 ⟨rfl, hp1⟩))
      clear c0 c1 c2 hone
      by_cases hgood : ∃ key r2 v r3, keyP true K' = some (key, r2) ∧ valP m r2 = some (v, r3)
      · obtain ⟨key, r2, v, r3, hk, hv⟩ := hgood
        have hLG1 := hp1.good key r2 v r3 hk hv
        have hlen3 := (val_len m).1 _ _ _ hv
        have hlen2 : r2.length ≤ K'.length := by
         rcases keyP_some hk with ⟨ho, e⟩ | ⟨ho, _, e⟩
         · rw [e, List.length_cons, List.length_cons]; omega
         · rw [e]; exact Nat.le_refl _
        have hT : itmP (m + 1) true K' ks it = (if r3.head? = some (1, endK true) then some (lv true (ks ++ [key]) (it ++ [v]), r3.tail) else if r3.head? = some (1, [44]) then itmP m true r3.tail (ks ++ [key]) (it ++ [v]) else none) := by
         rw [itmP_succ, hk]
         dsimp only
         rw [hv]
        have hdup : (tw || dupL true it ks [] || (true && decide (key ∈ ks)) || v.dup) = (tw || dupL true (it ++ [v]) (ks ++ [key]) []) := by
         rw [dupL_snoc true it ks [] v key HKL.out]
         simp only [List.not_mem_nil, or_false, Bool.or_assoc]
        rw [hdup] at hLG1
        have his1 := is_any hLG1.rd ⟨#[125]⟩
        have HT := Lib.hid hT
        have HG1 := Lib.hid hLG1
        clear hT hdup hLG1 hp1 hk hv
        by_cases he : r3.head? = some (1, (⟨#[125]⟩ : ByteArray).data.toList)
        · rw [if_pos he, decide_eq_true he] at his1
          have HE := Lib.hid he
          clear he
          go_wp2_with (first | (go_at_call 163; refine his1.mono ?_; rintro e w2 ⟨rfl, g2, rr2, _⟩))
          try simp only [Exit.inBlock, Exit.then]
          refine bodyPost_ret (results_none rfl _ _ _) rfl ?_
          have hT2 := HT.out
          rw [if_pos (show r3.head? = some (1, endK true) from HE.out), HIT.out, ← HLI.out] at hT2
          refine ⟨rfl, fun v' r' hv' => ?_, fun hv' => by rw [hT2] at hv'; cases hv'⟩
          rw [hT2] at hv'
          obtain ⟨rfl, rfl⟩ : lv true (ks ++ [key]) (it ++ [v]) = v' ∧ r3.tail = r' := by injection hv' with hv'; injection hv' with a b; exact ⟨a, b⟩
          rw [lv_dup]
          exact ⟨_, _, HG1.out.go HS.out HM.out g2 rr2 (HTL.out r3), rfl⟩
        · rw [if_neg he, decide_eq_false he] at his1
          have HE := Lib.hid he
          clear he
          by_cases hcm : r3.head? = some (1, (⟨#[44]⟩ : ByteArray).data.toList)
          · have HC := Lib.hid hcm
            clear hcm
            go_wp2_with (first
             | (go_at_call 163; refine his1.mono ?_; rintro e w2 ⟨rfl, g2, rr2, _⟩; have his2 := is_any rr2 ⟨#[44]⟩; rw [if_pos HC.out, decide_eq_true HC.out] at his2; clear his1)
             | (go_at_call 163; refine his2.mono ?_; rintro e w3 ⟨rfl, g3, rr3, _⟩))
            go_roundw
            case rel =>
             have hT2 := HT.out
             rw [if_neg (show ¬ r3.head? = some (1, endK true) from HE.out), if_pos (show r3.head? = some (1, [44]) from HC.out), HIT.out] at hT2
             have hr3 : r3.length = r3.tail.length + 1 := by
              cases r3 with
              | nil => exact absurd HC.out (by simp)
              | cons y t => rfl
             refine .inl ⟨m - 1, r3.tail, ks ++ [key], it ++ [v], by omega, by omega, by rw [List.length_append, List.length_append, HKL.out]; rfl, by rw [show m - 1 + 1 = m by omega]; exact hT2.symm, ?_⟩
             exact (HG1.out.go HS.out HM.out g2 rr2 (Nat.le_refl _)).go HS.out HM.out g3 rr3 (HTL.out r3)
            case measure =>
             rw [rr3.m, HMS.out]
             simp only [Bool.false_eq_true, if_false, List.length_tail]
             omega
          · have HC := Lib.hid hcm
            clear hcm
            go_wp2_with (first
             | (go_at_call 163; refine his1.mono ?_; rintro e w2 ⟨rfl, g2, rr2, _⟩; have his2 := is_any rr2 ⟨#[44]⟩; rw [if_neg HC.out, decide_eq_false HC.out] at his2; clear his1)
             | (go_at_call 163; refine his2.mono ?_; rintro e w3 ⟨rfl, g3, rr3, _⟩
                have HR3 := Lib.hid rr3
                obtain ⟨p3, cc3, q1, q2, q3, q4⟩ := rr3
                obtain ⟨c0, c1, c2, cf⟩ := cells3 q1
                have cf1 := cf 1
                clear q1 q2 q3 q4 cf))
            go_roundw
            case rel =>
             have hT2 := HT.out
             rw [if_neg (show ¬ r3.head? = some (1, endK true) from HE.out), if_neg (show ¬ r3.head? = some (1, [44]) from HC.out), HIT.out] at hT2
             exact .inr ⟨hT2, LG.fall HS.out ((HG1.out.go HS.out HM.out g2 rr2 (Nat.le_refl _)).go HS.out HM.out g3 HR3.out (Nat.le_refl _)) (gb_set w3 R 1 _) HR3.out.fall⟩
            case measure =>
             rw [HR3.out.fall.m, HMS.out]
             simp
      · have hnone : ∀ key r2, keyP true K' = some (key, r2) → valP m r2 = none := fun key r2 hk => by
         cases hv : valP m r2 with
         | none => rfl
         | some y => exact absurd ⟨key, r2, y.1, y.2, hk, hv⟩ hgood
        have hLB1 := hp1.bad hnone
        have hT : itmP (m + 1) true K' ks it = none := by
         rw [itmP_succ]
         split
         · rfl
         · rename_i key r2 hk
           rw [hnone key r2 hk]
        rw [HIT.out] at hT
        have HT := Lib.hid hT
        obtain ⟨K1, tw1, rr1⟩ := hLB1.rd
        have his1 := is_any rr1 ⟨#[125]⟩
        have HB1 := Lib.hid hLB1
        clear hT hLB1 hp1 hgood hnone
        by_cases he : K1.head? = some (1, (⟨#[125]⟩ : ByteArray).data.toList)
        · rw [decide_eq_true he] at his1
          clear he
          go_wp2_with (first | (go_at_call 163; refine his1.mono ?_; rintro e w2 ⟨rfl, g2, rr2, _⟩))
          try simp only [Exit.inBlock, Exit.then]
          refine bodyPost_ret (results_none rfl _ _ _) rfl ?_
          exact ⟨rfl, fun v' r' hv' => (by rw [HLI.out, HT.out] at hv'; cases hv'), fun _ => HB1.out.go HS.out g2 rr2⟩
        · rw [decide_eq_false he, if_neg he] at his1
          clear he
          by_cases hcm : K1.head? = some (1, (⟨#[44]⟩ : ByteArray).data.toList)
          · have HC := Lib.hid hcm
            clear hcm
            go_wp2_with (first
             | (go_at_call 163; refine his1.mono ?_; rintro e w2 ⟨rfl, g2, rr2, _⟩; have his2 := is_any rr2 ⟨#[44]⟩; rw [if_pos HC.out, decide_eq_true HC.out] at his2; clear his1)
             | (go_at_call 163; refine his2.mono ?_; rintro e w3 ⟨rfl, g3, rr3, _⟩))
            go_roundw
            case rel => exact .inr ⟨HT.out, (HB1.out.go HS.out g2 rr2).go HS.out g3 rr3⟩
            case measure => rw [rr3.m, HMS.out]; simp
          · have HC := Lib.hid hcm
            clear hcm
            go_wp2_with (first
             | (go_at_call 163; refine his1.mono ?_; rintro e w2 ⟨rfl, g2, rr2, _⟩; have his2 := is_any rr2 ⟨#[44]⟩; rw [if_neg HC.out, decide_eq_false HC.out] at his2; clear his1)
             | (go_at_call 163; refine his2.mono ?_; rintro e w3 ⟨rfl, g3, rr3, _⟩
                have HR3 := Lib.hid rr3
                obtain ⟨p3, cc3, q1, q2, q3, q4⟩ := rr3
                obtain ⟨c0, c1, c2, cf⟩ := cells3 q1
                have cf1 := cf 1
                clear q1 q2 q3 q4 cf))
            go_roundw
            case rel => exact .inr ⟨HT.out, ((HB1.out.go HS.out g2 rr2).go HS.out g3 HR3.out).go HS.out (gb_set w3 R 1 _) HR3.out.fall⟩
            case measure => rw [HR3.out.fall.m, HMS.out]; simp
    · obtain ⟨K1, tw1, rr1⟩ := hLB.rd
      obtain ⟨p, cc, q1, q2, q3, q4⟩ := rr1
      obtain ⟨c0, c1, c2, cf⟩ := cells3 q1
      have HB1 := Lib.hid hLB
      have HN1 := Lib.hid hnone
      clear q1 q2 q3 q4 cf hLB hnone hstart
      go_wp2_with fail
      go_end0
      exact ⟨rfl, fun v' r' hv' => (by rw [HLI.out, HN1.out] at hv'; cases hv'), fun _ => HB1.out⟩
end Go.Proofs.Jt
/- V21: The reader: list with the closure of array. -/
namespace Go.Proofs.Jt
open Go.RowKit Go.Maps Go.Lib Go.Proofs.Utf Go.Proofs

set_option maxRecDepth 100000 in
set_option maxHeartbeats 4000000 in
theorem list_array {fx : List (Nat × Obj)} {w0 : World} {R vb M lo N n ob : Nat} (hs : LS fx w0 R vb M lo) (hM : LM false R M)
 (HONE : Hid (∀ m, m + 1 ≤ n → ∀ (w : World) (K : List KT) (tw : Bool) (ks : List (List UInt8)) (it : List JV), LG false fx w0 R vb M lo N w K tw ks it → 2 * K.length + 2 ≤ m + 1 → Calls Tryz.prog 211 #[.pointer (some ⟨vb, 0, none⟩), .pointer (some ⟨ob, 0, none⟩)] w fun e w' => e = .returned (.tuple #[]) ∧ OneP false fx w0 R vb M lo N m K tw ks it w'))
 {w : World} {K : List KT} {tw : Bool} (h : LG false fx w0 R vb M lo N w K tw [] []) (hn : 2 * K.length + 2 ≤ n) :
 Calls Tryz.prog 209 #[.pointer (some ⟨R, 0, none⟩), .string ⟨#[93]⟩, .func (.func 211) #[] #[.pointer (some ⟨vb, 0, none⟩), .pointer (some ⟨ob, 0, none⟩)]] w fun e w' => e = .returned (.tuple #[]) ∧ LP false fx w0 R vb M lo N n K tw w' := by
 have his0 := is_any h.rd ⟨#[93]⟩
 have hRl := h.rd.lt
 have htl : ∀ K' : List KT, kw K'.tail ≤ kw K' := fun K' => by cases K' with | nil => exact Nat.le_refl _ | cons y t => obtain ⟨j, x⟩ := y; simp only [List.tail_cons, kw]; omega
 have HTL := Lib.hid htl
 have HS := Lib.hid hs
 have HM := Lib.hid hM
 have HG := Lib.hid h
 have HKN := Lib.hid hn
 clear htl h hs hM hn
 by_cases hd : K.head? = some (1, (⟨#[93]⟩ : ByteArray).data.toList)
 · rw [if_pos hd, decide_eq_true hd] at his0
   have HD := Lib.hid hd
   clear hd
   go_enter Tryz.func209, Tryz.ntmps209
   go_wp2_with (first | (go_at_call 163; refine his0.mono ?_; rintro e w1 ⟨rfl, g1, r1, _⟩))
   try simp only [Exit.inBlock, Exit.then]
   refine bodyPost_ret (results_none rfl _ _ _) rfl ?_
   have hl : lisP n false K = some (jn (if false then 6 else 5), K.tail) := if_pos HD.out
   refine ⟨rfl, fun v r hv => ?_, fun hv => by rw [hl] at hv; cases hv⟩
   rw [hl] at hv
   obtain ⟨rfl, rfl⟩ : jn (if false then 6 else 5) = v ∧ K.tail = r := by injection hv with hv; injection hv with a b; exact ⟨a, b⟩
   have e0 : (jn (if false then 6 else 5)).dup = false := rfl
   rw [e0, Bool.or_false]
   exact ⟨[], [], HG.out.go HS.out HM.out g1 r1 (HTL.out K), rfl⟩
 · rw [if_neg hd, decide_eq_false hd] at his0
   have hl : lisP n false K = itmP n false K [] [] := if_neg hd
   have HLI := Lib.hid hl
   clear hd hl
   go_enter Tryz.func209, Tryz.ntmps209
   go_wp2_with (first | (go_at_call 163; refine his0.mono ?_; rintro e w1 ⟨rfl, g1, r1, _⟩))
   have hstart : LI false fx w0 R vb M lo N n K tw w1 := .inl ⟨n - 1, K, [], [], by have := HKN.out; omega, by have := HKN.out; omega, rfl, by have := HKN.out; rw [show n - 1 + 1 = n by omega], by
    rw [show (tw || dupL false ([] : List JV) [] []) = tw by cases tw <;> rfl]
    exact HG.out.go HS.out HM.out g1 r1 (Nat.le_refl _)⟩
   clear g1 r1 his0
   go_loopw [] (fun wr => LI false fx w0 R vb M lo N n K tw wr) (fun wr => rdM wr R)
   case atStart => exact hstart
   case round =>
    rcases hrel with ⟨m, K', ks, it, hm, hK, hkl, hit, hLG⟩ | ⟨hnone, hLB⟩
    · have hone := HONE.out m hm wr K' _ ks it hLG hK
      have hmeas := hLG.rd.m
      obtain ⟨p, cc, q1, q2, q3, q4⟩ := hLG.rd
      obtain ⟨c0, c1, c2, cf⟩ := cells3 q1
      have HMS := Lib.hid hmeas
      have HLG := Lib.hid hLG
      have HIT := Lib.hid hit
      have HKL := Lib.hid hkl
      clear q1 q2 q3 q4 cf hmeas hLG hit hkl hstart
      go_upto_region 3 with (first | (go_at_call 211; refine hone.mono ?_; rintro e w1 ⟨rfl, hp1⟩))
      clear c0 c1 c2 hone
      by_cases hgood : ∃ key r2 v r3, keyP false K' = some (key, r2) ∧ valP m r2 = some (v, r3)
      · obtain ⟨key, r2, v, r3, hk, hv⟩ := hgood
        have hLG1 := hp1.good key r2 v r3 hk hv
        have hlen3 := (val_len m).1 _ _ _ hv
        have hlen2 : r2.length ≤ K'.length := by
         rcases keyP_some hk with ⟨ho, e⟩ | ⟨ho, _, e⟩
         · rw [e, List.length_cons, List.length_cons]; omega
         · rw [e]; exact Nat.le_refl _
        have hT : itmP (m + 1) false K' ks it = (if r3.head? = some (1, endK false) then some (lv false (ks ++ [key]) (it ++ [v]), r3.tail) else if r3.head? = some (1, [44]) then itmP m false r3.tail (ks ++ [key]) (it ++ [v]) else none) := by
         rw [itmP_succ, hk]
         dsimp only
         rw [hv]
        have hdup : (tw || dupL false it ks [] || (false && decide (key ∈ ks)) || v.dup) = (tw || dupL false (it ++ [v]) (ks ++ [key]) []) := by
         rw [dupL_snoc false it ks [] v key HKL.out]
         simp only [List.not_mem_nil, or_false, Bool.or_assoc]
        rw [hdup] at hLG1
        have his1 := is_any hLG1.rd ⟨#[93]⟩
        have HT := Lib.hid hT
        have HG1 := Lib.hid hLG1
        clear hT hdup hLG1 hp1 hk hv
        by_cases he : r3.head? = some (1, (⟨#[93]⟩ : ByteArray).data.toList)
        · rw [if_pos he, decide_eq_true he] at his1
          have HE := Lib.hid he
          clear he
          go_wp2_with (first | (go_at_call 163; refine his1.mono ?_; rintro e w2 ⟨rfl, g2, rr2, _⟩))
          try simp only [Exit.inBlock, Exit.then]
          refine bodyPost_ret (results_none rfl _ _ _) rfl ?_
          have hT2 := HT.out
          rw [if_pos (show r3.head? = some (1, endK false) from HE.out), HIT.out, ← HLI.out] at hT2
          refine ⟨rfl, fun v' r' hv' => ?_, fun hv' => by rw [hT2] at hv'; cases hv'⟩
          rw [hT2] at hv'
          obtain ⟨rfl, rfl⟩ : lv false (ks ++ [key]) (it ++ [v]) = v' ∧ r3.tail = r' := by injection hv' with hv'; injection hv' with a b; exact ⟨a, b⟩
          rw [lv_dup]
          exact ⟨_, _, HG1.out.go HS.out HM.out g2 rr2 (HTL.out r3), rfl⟩
        · rw [if_neg he, decide_eq_false he] at his1
          have HE := Lib.hid he
          clear he
          by_cases hcm : r3.head? = some (1, (⟨#[44]⟩ : ByteArray).data.toList)
          · have HC := Lib.hid hcm
            clear hcm
            go_wp2_with (first
             | (go_at_call 163; refine his1.mono ?_; rintro e w2 ⟨rfl, g2, rr2, _⟩; have his2 := is_any rr2 ⟨#[44]⟩; rw [if_pos HC.out, decide_eq_true HC.out] at his2; clear his1)
             | (go_at_call 163; refine his2.mono ?_; rintro e w3 ⟨rfl, g3, rr3, _⟩))
            go_roundw
            case rel =>
             have hT2 := HT.out
             rw [if_neg (show ¬ r3.head? = some (1, endK false) from HE.out), if_pos (show r3.head? = some (1, [44]) from HC.out), HIT.out] at hT2
             have hr3 : r3.length = r3.tail.length + 1 := by
              cases r3 with
              | nil => exact absurd HC.out (by simp)
              | cons y t => rfl
             refine .inl ⟨m - 1, r3.tail, ks ++ [key], it ++ [v], by omega, by omega, by rw [List.length_append, List.length_append, HKL.out]; rfl, by rw [show m - 1 + 1 = m by omega]; exact hT2.symm, ?_⟩
             exact (HG1.out.go HS.out HM.out g2 rr2 (Nat.le_refl _)).go HS.out HM.out g3 rr3 (HTL.out r3)
            case measure =>
             rw [rr3.m, HMS.out]
             simp only [Bool.false_eq_true, if_false, List.length_tail]
             omega
          · have HC := Lib.hid hcm
            clear hcm
            go_wp2_with (first
             | (go_at_call 163; refine his1.mono ?_; rintro e w2 ⟨rfl, g2, rr2, _⟩; have his2 := is_any rr2 ⟨#[44]⟩; rw [if_neg HC.out, decide_eq_false HC.out] at his2; clear his1)
             | (go_at_call 163; refine his2.mono ?_; rintro e w3 ⟨rfl, g3, rr3, _⟩
                have HR3 := Lib.hid rr3
                obtain ⟨p3, cc3, q1, q2, q3, q4⟩ := rr3
                obtain ⟨c0, c1, c2, cf⟩ := cells3 q1
                have cf1 := cf 1
                clear q1 q2 q3 q4 cf))
            go_roundw
            case rel =>
             have hT2 := HT.out
             rw [if_neg (show ¬ r3.head? = some (1, endK false) from HE.out), if_neg (show ¬ r3.head? = some (1, [44]) from HC.out), HIT.out] at hT2
             exact .inr ⟨hT2, LG.fall HS.out ((HG1.out.go HS.out HM.out g2 rr2 (Nat.le_refl _)).go HS.out HM.out g3 HR3.out (Nat.le_refl _)) (gb_set w3 R 1 _) HR3.out.fall⟩
            case measure =>
             rw [HR3.out.fall.m, HMS.out]
             simp
      · have hnone : ∀ key r2, keyP false K' = some (key, r2) → valP m r2 = none := fun key r2 hk => by
         cases hv : valP m r2 with
         | none => rfl
         | some y => exact absurd ⟨key, r2, y.1, y.2, hk, hv⟩ hgood
        have hLB1 := hp1.bad hnone
        have hT : itmP (m + 1) false K' ks it = none := by
         rw [itmP_succ]
         split
         · rfl
         · rename_i key r2 hk
           rw [hnone key r2 hk]
        rw [HIT.out] at hT
        have HT := Lib.hid hT
        obtain ⟨K1, tw1, rr1⟩ := hLB1.rd
        have his1 := is_any rr1 ⟨#[93]⟩
        have HB1 := Lib.hid hLB1
        clear hT hLB1 hp1 hgood hnone
        by_cases he : K1.head? = some (1, (⟨#[93]⟩ : ByteArray).data.toList)
        · rw [decide_eq_true he] at his1
          clear he
          go_wp2_with (first | (go_at_call 163; refine his1.mono ?_; rintro e w2 ⟨rfl, g2, rr2, _⟩))
          try simp only [Exit.inBlock, Exit.then]
          refine bodyPost_ret (results_none rfl _ _ _) rfl ?_
          exact ⟨rfl, fun v' r' hv' => (by rw [HLI.out, HT.out] at hv'; cases hv'), fun _ => HB1.out.go HS.out g2 rr2⟩
        · rw [decide_eq_false he, if_neg he] at his1
          clear he
          by_cases hcm : K1.head? = some (1, (⟨#[44]⟩ : ByteArray).data.toList)
          · have HC := Lib.hid hcm
            clear hcm
            go_wp2_with (first
             | (go_at_call 163; refine his1.mono ?_; rintro e w2 ⟨rfl, g2, rr2, _⟩; have his2 := is_any rr2 ⟨#[44]⟩; rw [if_pos HC.out, decide_eq_true HC.out] at his2; clear his1)
             | (go_at_call 163; refine his2.mono ?_; rintro e w3 ⟨rfl, g3, rr3, _⟩))
            go_roundw
            case rel => exact .inr ⟨HT.out, (HB1.out.go HS.out g2 rr2).go HS.out g3 rr3⟩
            case measure => rw [rr3.m, HMS.out]; simp
          · have HC := Lib.hid hcm
            clear hcm
            go_wp2_with (first
             | (go_at_call 163; refine his1.mono ?_; rintro e w2 ⟨rfl, g2, rr2, _⟩; have his2 := is_any rr2 ⟨#[44]⟩; rw [if_neg HC.out, decide_eq_false HC.out] at his2; clear his1)
             | (go_at_call 163; refine his2.mono ?_; rintro e w3 ⟨rfl, g3, rr3, _⟩
                have HR3 := Lib.hid rr3
                obtain ⟨p3, cc3, q1, q2, q3, q4⟩ := rr3
                obtain ⟨c0, c1, c2, cf⟩ := cells3 q1
                have cf1 := cf 1
                clear q1 q2 q3 q4 cf))
            go_roundw
            case rel => exact .inr ⟨HT.out, ((HB1.out.go HS.out g2 rr2).go HS.out g3 HR3.out).go HS.out (gb_set w3 R 1 _) HR3.out.fall⟩
            case measure => rw [HR3.out.fall.m, HMS.out]; simp
    · obtain ⟨K1, tw1, rr1⟩ := hLB.rd
      obtain ⟨p, cc, q1, q2, q3, q4⟩ := rr1
      obtain ⟨c0, c1, c2, cf⟩ := cells3 q1
      have HB1 := Lib.hid hLB
      have HN1 := Lib.hid hnone
      clear q1 q2 q3 q4 cf hLB hnone hstart
      go_wp2_with fail
      go_end0
      exact ⟨rfl, fun v' r' hv' => (by rw [HLI.out, HN1.out] at hv'; cases hv'), fun _ => HB1.out⟩
end Go.Proofs.Jt
/- V22: The reader: object, array. -/
namespace Go.Proofs.Jt
open Go.RowKit Go.Maps Go.Lib Go.Proofs.Utf Go.Proofs

theorem alloc_at (w : World) (o : Obj) : (w.alloc o).heap[w.heap.size]? = some o := World.alloc_heap_new w o
theorem alloc_old {w : World} {k : Nat} {x : Obj} (o : Obj) (h : w.heap[k]? = some x) : (w.alloc o).heap[k]? = some x :=
 (((Below.refl w.heap.size w).alloc (Nat.le_refl _) o).block k (ltS h)).trans h
theorem alloc_len (w : World) (o : Obj) : (w.alloc o).heap.size = w.heap.size + 1 := by simp
theorem LV.start {w : World} {vb lo : Nat} {k : Int} (h : w.heap[vb]? = some (.cells #[.int .i64 k, .string ⟨#[]⟩, .slice none 0 0, .slice none 0 0] 25 (0, 0))) : LV w vb lo k [] [] (.slice none 0 0) (.slice none 0 0) :=
 ⟨h, World.ownsRow_nil _ _ _ _, World.ownsRow_nil _ _ _ _, fun c hc => by cases hc⟩
/-- a value's row out of a list that has been read -/
theorem LG.value {o : Bool} {fx : List (Nat × Obj)} {w0 : World} {R vb M lo N : Nat} {w : World} {K : List KT} {tw : Bool} {ks : List (List UInt8)} {it : List JV} (h : LG o fx w0 R vb M lo N w K tw ks it) (hN : N ≤ 100000000) :
 ∃ kp kc ip ic nk ni, w.heap[vb]? = some (.cells #[.int .i64 (if o then 6 else 5), .string ⟨#[]⟩, .slice kp nk kc, .slice ip ni ic] 25 (0, 0)) ∧ jval (lv o ks it) kp kc ip ic = .agg #[.int .i64 (if o then 6 else 5), .string ⟨#[]⟩, .slice kp nk kc, .slice ip ni ic] ∧ KP w (lo ≤ ·) (lv o ks it) kp kc ip ic := by
 obtain ⟨L, kv, iv, h1, h2⟩ := h.v
 have hwt := h.wt
 have hil := items_len it
 have hll : L.length = it.length := by rw [← h2, List.length_map]
 have hks : (if o then ks else []).length ≤ 100000000 ∧ ∀ s ∈ (if o then ks else []), s.length ≤ 100000000 := by
  cases o with
  | false => exact ⟨Nat.zero_le _, fun s hs => by cases hs⟩
  | true =>
   simp only [if_true] at hwt ⊢
   have := keys_len ks
   exact ⟨by omega, fun s hs => by have := keysW_mem hs; omega⟩
 obtain ⟨kp, kc, ip, ic, rfl, rfl, hk⟩ := KP.build (k := if o then 6 else 5) h1.rk h1.ri (fun c hc => ⟨(h1.ch c hc).1.keep (Nat.le_refl _) (fun _ _ _ => rfl) fun b hb _ => ⟨hb.1, hb.2.1⟩, (h1.ch c hc).2⟩) ⟨by unfold maxLen; omega, by unfold maxLen; omega, fun s hs => by have := hks.2 s hs; unfold maxLen; omega⟩
 rw [h2] at hk
 refine ⟨kp, kc, ip, ic, _, _, h1.hd, ?_, hk⟩
 unfold jval lv
 rw [kind_mk, str_mk, keys_mk, items_mk, hll]
theorem JBox.fx {w : World} {z : Nat} {a b c d : Value} (h : w.heap[z]? = some (.cells #[a, b, c, d] 25 (0, 0))) : JBox w z := ⟨a, b, c, d, h⟩
/-- the end of object and of array: the value is put into the result's box -/
theorem LP.post {o : Bool} {fx : List (Nat × Obj)} {w w6 W7 : World} {R vb M lo N n z : Nat} {K : List KT} {tw : Bool} (hs : LS fx w R vb M lo) (hz : w.heap.size ≤ z) (hzl : z < lo) (_hzv : z ≠ vb) (h : LP o fx w R vb M lo N n K tw w6) (hN : N ≤ 100000000) (g7 : w6.grownBy W7 (some z))
 {k : Int} {S : ByteArray} {p p' : Option Addr} {nk c nk' c' : Nat} (hv : w6.heap[vb]? = some (.cells #[.int .i64 k, .string S, .slice p nk c, .slice p' nk' c'] 25 (0, 0))) :
 VP w R tw (lisP n o K) k S p nk c p' nk' c' W7 := by
 have h1 := hs.rlt
 have hb : ∀ {fr : w.grownBy w6 (some R)}, w.grownBy W7 (some R) := fun {fr} => fr.andThen g7 fun j e => .inl (by cases e; exact hz)
 cases hl : lisP n o K with
 | some y =>
  obtain ⟨v, r⟩ := y
  obtain ⟨ks, it, hg, rfl⟩ := h.good v r hl
  obtain ⟨kp, kc, ip, ic, nk1, ni1, e1, e2, e3⟩ := hg.value hN
  rw [hv] at e1
  injection e1 with e1
  injection e1 with e1
  have e4 := Array.toList_inj.2 e1
  simp only [List.cons.injEq, Value.int.injEq, Value.string.injEq, Value.slice.injEq, and_true, true_and] at e4
  obtain ⟨rfl, rfl, ⟨rfl, rfl, rfl⟩, rfl, rfl, rfl⟩ := e4
  refine ⟨hb (fr := hg.fr), fun v' r' hv' => ?_, fun h => by cases h⟩
  cases hv'
  refine ⟨hg.rd.kept g7 (by omega), e2, e3.keep g7.size (fun b hb hl => g7.block b hl (fun e => by have := Option.some.inj e; omega)) (fun b hb _ => by omega), by unfold lv maxLen; rw [str_mk]; simp⟩
 | none =>
  have hB := h.bad hl
  obtain ⟨K', tw', hr⟩ := hB.rd
  exact ⟨hb (fr := hB.fr), fun v r h => (by cases h), fun _ => ⟨K', tw', hr.kept g7 (by omega)⟩⟩
theorem object_start {w : World} {R : Nat} {K : List KT} {tw : Bool} (h : RD w R K false tw) :
 ∃ fx, (w.heap.size, Obj.cells #[.pointer (some ⟨R, 0, none⟩)] 168 (0, 0)) ∈ fx ∧ (w.heap.size + 1 + 1 + 1 + 1, Obj.cells #[.map (some (w.heap.size + 1 + 1 + 1))] 211 (0, 0)) ∈ fx ∧ (w.heap.size + 1, Obj.cells #[.int .i64 0, .string ⟨#[]⟩, .slice none 0 0, .slice none 0 0] 25 (0, 0)) ∈ fx ∧
  LS fx w R (w.heap.size + 1 + 1) (w.heap.size + 1 + 1 + 1) (w.heap.size + 1 + 1 + 1 + 1 + 1) ∧
  LG true fx w R (w.heap.size + 1 + 1) (w.heap.size + 1 + 1 + 1) (w.heap.size + 1 + 1 + 1 + 1 + 1) (kw K)
   (((((w.alloc (.cells #[.pointer (some ⟨R, 0, none⟩)] 168)).alloc (.cells #[.int .i64 0, .string ⟨#[]⟩, .slice none 0 0, .slice none 0 0] 25)).alloc (.cells #[.int .i64 6, .string ⟨#[]⟩, .slice none 0 0, .slice none 0 0] 25)).alloc (.map #[] 0)).alloc (.cells #[.map (some (w.heap.size + 1 + 1 + 1))] 211)) K tw [] [] := by
 obtain ⟨W1, hW1⟩ : ∃ W, w.alloc (.cells #[.pointer (some ⟨R, 0, none⟩)] 168) = W := ⟨_, rfl⟩
 obtain ⟨W2, hW2⟩ : ∃ W, W1.alloc (.cells #[.int .i64 0, .string ⟨#[]⟩, .slice none 0 0, .slice none 0 0] 25) = W := ⟨_, rfl⟩
 obtain ⟨W3, hW3⟩ : ∃ W, W2.alloc (.cells #[.int .i64 6, .string ⟨#[]⟩, .slice none 0 0, .slice none 0 0] 25) = W := ⟨_, rfl⟩
 obtain ⟨W4, hW4⟩ : ∃ W, W3.alloc (.map #[] 0) = W := ⟨_, rfl⟩
 have z1 : W1.heap.size = w.heap.size + 1 := by rw [← hW1, alloc_len]
 have z2 : W2.heap.size = w.heap.size + 1 + 1 := by rw [← hW2, alloc_len, z1]
 have z3 : W3.heap.size = w.heap.size + 1 + 1 + 1 := by rw [← hW3, alloc_len, z2]
 have z4 : W4.heap.size = w.heap.size + 1 + 1 + 1 + 1 := by rw [← hW4, alloc_len, z3]
 rw [hW1, hW2, hW3, hW4]
 obtain ⟨W5, hW5⟩ : ∃ W, W4.alloc (.cells #[.map (some (w.heap.size + 1 + 1 + 1))] 211) = W := ⟨_, rfl⟩
 have z5 : W5.heap.size = w.heap.size + 1 + 1 + 1 + 1 + 1 := by rw [← hW5, alloc_len, z4]
 rw [hW5]
 have hR := h.lt
 have a1 : W5.heap[w.heap.size]? = some (.cells #[.pointer (some ⟨R, 0, none⟩)] 168 (0, 0)) := by
  rw [← hW5, ← hW4, ← hW3, ← hW2, ← hW1]; exact alloc_old _ (alloc_old _ (alloc_old _ (alloc_old _ (alloc_at _ _))))
 have a2 : W5.heap[w.heap.size + 1]? = some (.cells #[.int .i64 0, .string ⟨#[]⟩, .slice none 0 0, .slice none 0 0] 25 (0, 0)) := by
  rw [← z1, ← hW5, ← hW4, ← hW3, ← hW2]; exact alloc_old _ (alloc_old _ (alloc_old _ (alloc_at _ _)))
 have a3 : W5.heap[w.heap.size + 1 + 1]? = some (.cells #[.int .i64 6, .string ⟨#[]⟩, .slice none 0 0, .slice none 0 0] 25 (0, 0)) := by
  rw [← z2, ← hW5, ← hW4, ← hW3]; exact alloc_old _ (alloc_old _ (alloc_at _ _))
 have a5 : W5.heap[w.heap.size + 1 + 1 + 1 + 1]? = some (.cells #[.map (some (w.heap.size + 1 + 1 + 1))] 211 (0, 0)) := by
  rw [← z4, ← hW5]; exact alloc_at _ _
 have m4 : MetC W4 (w.heap.size + 1 + 1 + 1) [] := by rw [← z3, ← hW4]; exact MetC.made W3
 have m5 : MetC W5 (w.heap.size + 1 + 1 + 1) [] := by rw [← hW5]; exact m4.kept (row := none) (World.grownBy_alloc W4 _ none) (by simp)
 have bW : Below w.heap.size w W5 := by
  rw [← hW5, ← hW4, ← hW3, ← hW2, ← hW1]
  exact (((((Below.refl _ _).alloc (Nat.le_refl _) _).alloc (by simp) _).alloc (by simp; omega) _).alloc (by simp; omega) _).alloc (by simp; omega) _
 refine ⟨[(w.heap.size, .cells #[.pointer (some ⟨R, 0, none⟩)] 168 (0, 0)), (w.heap.size + 1 + 1 + 1 + 1, .cells #[.map (some (w.heap.size + 1 + 1 + 1))] 211 (0, 0)), (w.heap.size + 1, .cells #[.int .i64 0, .string ⟨#[]⟩, .slice none 0 0, .slice none 0 0] 25 (0, 0))], by simp, by simp, by simp, ⟨hR, by omega, by omega, fun x hx => ?_⟩, ⟨gb_below bW, h.below bW, fun x hx => ?_, ⟨[], _, _, LV.start a3, rfl⟩, fun _ => m5, by simp [wtL, keysW], by omega⟩⟩
 · simp only [List.mem_cons, List.not_mem_nil, or_false] at hx
   rcases hx with rfl | rfl | rfl <;> dsimp only <;> omega
 · simp only [List.mem_cons, List.not_mem_nil, or_false] at hx
   rcases hx with rfl | rfl | rfl
   · exact a1
   · exact a5
   · exact a2
theorem array_start {w : World} {R : Nat} {K : List KT} {tw : Bool} (h : RD w R K false tw) :
 ∃ fx, (w.heap.size + 1 + 1, Obj.cells #[.func (.func 112) #[.pointer (some ⟨R, 0, none⟩)] #[]] 121 (0, 0)) ∈ fx ∧ (w.heap.size, Obj.cells #[.int .i64 0, .string ⟨#[]⟩, .slice none 0 0, .slice none 0 0] 25 (0, 0)) ∈ fx ∧
  LS fx w R (w.heap.size + 1) R (w.heap.size + 1 + 1 + 1) ∧
  LG false fx w R (w.heap.size + 1) R (w.heap.size + 1 + 1 + 1) (kw K)
   (((w.alloc (.cells #[.int .i64 0, .string ⟨#[]⟩, .slice none 0 0, .slice none 0 0] 25)).alloc (.cells #[.int .i64 5, .string ⟨#[]⟩, .slice none 0 0, .slice none 0 0] 25)).alloc (.cells #[.func (.func 112) #[.pointer (some ⟨R, 0, none⟩)] #[]] 121)) K tw [] [] := by
 obtain ⟨W1, hW1⟩ : ∃ W, w.alloc (.cells #[.int .i64 0, .string ⟨#[]⟩, .slice none 0 0, .slice none 0 0] 25) = W := ⟨_, rfl⟩
 obtain ⟨W2, hW2⟩ : ∃ W, W1.alloc (.cells #[.int .i64 5, .string ⟨#[]⟩, .slice none 0 0, .slice none 0 0] 25) = W := ⟨_, rfl⟩
 have z1 : W1.heap.size = w.heap.size + 1 := by rw [← hW1, alloc_len]
 have z2 : W2.heap.size = w.heap.size + 1 + 1 := by rw [← hW2, alloc_len, z1]
 rw [hW1, hW2]
 obtain ⟨W5, hW5⟩ : ∃ W, W2.alloc (.cells #[.func (.func 112) #[.pointer (some ⟨R, 0, none⟩)] #[]] 121) = W := ⟨_, rfl⟩
 have z5 : W5.heap.size = w.heap.size + 1 + 1 + 1 := by rw [← hW5, alloc_len, z2]
 rw [hW5]
 have hR := h.lt
 have a1 : W5.heap[w.heap.size]? = some (.cells #[.int .i64 0, .string ⟨#[]⟩, .slice none 0 0, .slice none 0 0] 25 (0, 0)) := by
  rw [← hW5, ← hW2, ← hW1]; exact alloc_old _ (alloc_old _ (alloc_at _ _))
 have a2 : W5.heap[w.heap.size + 1]? = some (.cells #[.int .i64 5, .string ⟨#[]⟩, .slice none 0 0, .slice none 0 0] 25 (0, 0)) := by
  rw [← z1, ← hW5, ← hW2]; exact alloc_old _ (alloc_at _ _)
 have a3 : W5.heap[w.heap.size + 1 + 1]? = some (.cells #[.func (.func 112) #[.pointer (some ⟨R, 0, none⟩)] #[]] 121 (0, 0)) := by
  rw [← z2, ← hW5]; exact alloc_at _ _
 have bW : Below w.heap.size w W5 := by
  rw [← hW5, ← hW2, ← hW1]
  exact (((Below.refl _ _).alloc (Nat.le_refl _) _).alloc (by simp) _).alloc (by simp; omega) _
 refine ⟨[(w.heap.size + 1 + 1, .cells #[.func (.func 112) #[.pointer (some ⟨R, 0, none⟩)] #[]] 121 (0, 0)), (w.heap.size, .cells #[.int .i64 0, .string ⟨#[]⟩, .slice none 0 0, .slice none 0 0] 25 (0, 0))], by simp, by simp, ⟨hR, by omega, by omega, fun x hx => ?_⟩, ⟨gb_below bW, h.below bW, fun x hx => ?_, ⟨[], _, _, LV.start a2, rfl⟩, fun h => (by cases h), by simp [wtL], by omega⟩⟩
 · simp only [List.mem_cons, List.not_mem_nil, or_false] at hx
   rcases hx with rfl | rfl <;> dsimp only <;> omega
 · simp only [List.mem_cons, List.not_mem_nil, or_false] at hx
   rcases hx with rfl | rfl
   · exact a3
   · exact a1
/-- where a list ends: its box and the result's -/
theorem LP.boxes {o : Bool} {fx : List (Nat × Obj)} {w0 w : World} {R vb M lo N n z : Nat} {K : List KT} {tw : Bool} {a b c d : Value} (h : LP o fx w0 R vb M lo N n K tw w) (hN : N ≤ 100000000) (hz : (z, Obj.cells #[a, b, c, d] 25 (0, 0)) ∈ fx) :
 JBox w z ∧ ∃ k S p nk c p' nk' c', w.heap[vb]? = some (.cells #[.int .i64 k, .string S, .slice p nk c, .slice p' nk' c'] 25 (0, 0)) := by
 cases hl : lisP n o K with
 | some y =>
  obtain ⟨ks, it, hg, _⟩ := h.good y.1 y.2 hl
  obtain ⟨kp, kc, ip, ic, nk, ni, e1, _⟩ := hg.value hN
  exact ⟨JBox.fx (hg.fx _ hz), _, _, _, _, _, _, _, _, e1⟩
 | none =>
  have hB := h.bad hl
  exact ⟨JBox.fx (hB.fx _ hz), hB.v⟩
theorem cells4 {w : World} {b : Nat} {v0 v1 v2 v3 : Value} {t : TypeId} (h : w.heap[b]? = some (.cells #[v0, v1, v2, v3] t (0, 0))) : w.cell? ⟨b, 0, none⟩ = some v0 ∧ w.cell? ⟨b, 1, none⟩ = some v1 ∧ w.cell? ⟨b, 2, none⟩ = some v2 ∧ w.cell? ⟨b, 3, none⟩ = some v3 := by
 refine ⟨?_, ?_, ?_, ?_⟩ <;> simp [World.cell?, h]
set_option maxRecDepth 100000 in
set_option maxHeartbeats 4000000 in
theorem object_any {n : Nat} (IH : ∀ m, m + 1 ≤ n → ValC m) {w : World} {R : Nat} {K : List KT} {tw : Bool} (h : RD w R K false tw) (hk : kw K ≤ 100000000) (hn : 2 * K.length + 2 ≤ n) :
 Calls Tryz.prog 164 #[.pointer (some ⟨R, 0, none⟩)] w (ValPost w R tw (lisP n true K)) := by
 obtain ⟨fx, f1, f2, f3, hs, hg⟩ := object_start h
 have hl := list_object hs (fun _ => by have := h.lt; omega) (Lib.hid fun m hm w K tw ks it hG hK => (object_one hs (by have := h.lt; omega) f1 f2 hk (IH m hm) hG (by omega)).mono fun e w' hp => ⟨hp.1, ⟨fun key r2 v r3 a b => hp.2.2.1 key r2 v r3 a b, hp.2.2.2⟩⟩) hg hn
 have HS := Lib.hid hs
 have HF := Lib.hid f3
 have HK := Lib.hid hk
 clear f1 f2 f3 hs hg h hk hn IH
 have hmm := @run_makeMap Tryz.prog
 go_enter Tryz.func164, Tryz.ntmps164
 go_wp2_with (first
  | (go_at_call 209; refine hl.mono ?_; rintro e w6 ⟨rfl, hp⟩
     obtain ⟨hbx, vk, vS, vp, vn, vc, vp', vn', vc', hv⟩ := hp.boxes HK.out HF.out
     obtain ⟨c0, c1, c2, c3⟩ := cells4 hv
     have HV := Lib.hid hv
     have HP := Lib.hid hp
     have HB := Lib.hid hbx
     clear hv hp hbx)
  | (refine store_val rfl (.tmp 2) (.tmp 10) rfl (w.heap.size + 1) rfl (.int .i64 vk) (.string vS) (.slice vp vn vc) (.slice vp' vn' vc') rfl rfl HB.out (fun V hV hgV _ => ?_)))
 refine bodyPost_ret (ret_val Tryz.results164 rfl hV) rfl ⟨vk, vS, vp, vn, vc, vp', vn', vc', rfl, ?_⟩
 exact LP.post HS.out (by omega) (by omega) (by omega) HP.out HK.out hgV HV.out
set_option maxRecDepth 100000 in
set_option maxHeartbeats 4000000 in
theorem array_any {n : Nat} (IH : ∀ m, m + 1 ≤ n → ValC m) {w : World} {R : Nat} {K : List KT} {tw : Bool} (h : RD w R K false tw) (hk : kw K ≤ 100000000) (hn : 2 * K.length + 2 ≤ n) :
 Calls Tryz.prog 165 #[.pointer (some ⟨R, 0, none⟩)] w (ValPost w R tw (lisP n false K)) := by
 obtain ⟨fx, f1, f3, hs, hg⟩ := array_start h
 have hl := list_array hs (fun h => (by cases h)) (Lib.hid fun m hm w K tw ks it hG hK => (array_one hs f1 hk (IH m hm) hG (by omega)).mono fun e w' hp => ⟨hp.1, ⟨fun key r2 v r3 a b => by
  rcases keyP_some a with ⟨h, _⟩ | ⟨_, rfl, rfl⟩
  · cases h
  · simpa using hp.2.2.1 v r3 b, fun hx => hp.2.2.2 (hx [] K rfl)⟩⟩) hg hn
 have HS := Lib.hid hs
 have HF := Lib.hid f3
 have HK := Lib.hid hk
 clear f1 f3 hs hg h hk hn IH
 go_enter Tryz.func165, Tryz.ntmps165
 go_wp2_with (first
  | (go_at_call 209; refine hl.mono ?_; rintro e w6 ⟨rfl, hp⟩
     obtain ⟨hbx, vk, vS, vp, vn, vc, vp', vn', vc', hv⟩ := hp.boxes HK.out HF.out
     obtain ⟨c0, c1, c2, c3⟩ := cells4 hv
     have HV := Lib.hid hv
     have HP := Lib.hid hp
     have HB := Lib.hid hbx
     clear hv hp hbx)
  | (refine store_val rfl (.tmp 2) (.tmp 11) rfl w.heap.size rfl (.int .i64 vk) (.string vS) (.slice vp vn vc) (.slice vp' vn' vc') rfl rfl HB.out (fun V hV hgV _ => ?_)))
 refine bodyPost_ret (ret_val Tryz.results165 rfl hV) rfl ⟨vk, vS, vp, vn, vc, vp', vn', vc', rfl, ?_⟩
 exact LP.post HS.out (by omega) (by omega) (by omega) HP.out HK.out hgV HV.out
end Go.Proofs.Jt
/- V23: The reader: value. -/
namespace Go.Proofs.Jt
open Go.RowKit Go.Maps Go.Lib Go.Proofs.Utf Go.Proofs

theorem VP.leaf {w w2 W7 : World} {R z : Nat} {tw : Bool} {K : List KT} {o : Option (JV × List KT)} {k : Int} {s : List UInt8} (hz : w.heap.size ≤ z) (hRz : R < z) (hs : s.length ≤ 16777216) (g : w.grownBy w2 (some R)) (r : RD w2 R K false tw) (g7 : w2.grownBy W7 (some z)) (ho : o = some (.mk k s [] [], K)) (hd : (JV.mk k s [] []).dup = false) :
 VP w R tw o k ⟨s.toArray⟩ none 0 0 none 0 0 W7 := by
 refine ⟨g.andThen g7 fun j e => .inl (by cases e; exact hz), fun v r' hv => ?_, fun h => by rw [ho] at h; cases h⟩
 rw [ho] at hv
 cases hv
 rw [hd, Bool.or_false]
 exact ⟨r.kept g7 hRz, rfl, KP.leaf _ _ _ _, by rw [str_mk]; unfold maxLen; omega⟩
theorem VP.wide {w w1 w2 W7 : World} {R z : Nat} {tw : Bool} {o : Option (JV × List KT)} {k : Int} {S : ByteArray} {p p' : Option Addr} {n c n' c' : Nat} (hz : w.heap.size ≤ z) (hzl : z < w1.heap.size) (hRz : R < z) (g : w.grownBy w1 (some R)) (h : VP w1 R tw o k S p n c p' n' c' w2) (g7 : w2.grownBy W7 (some z)) :
 VP w R tw o k S p n c p' n' c' W7 := by
 refine ⟨(g.trans h.gb).andThen g7 fun j e => .inl (by cases e; exact hz), fun v r hv => ?_, fun ho => ?_⟩
 · obtain ⟨q1, q2, q3, q4⟩ := h.good v r hv
   have hs := g.size
   exact ⟨q1.kept g7 hRz, q2, q3.keep g7.size (fun b hb hl => g7.block b hl (fun e => by have := Option.some.inj e; omega)) (fun b hb _ => by omega), q4⟩
 · obtain ⟨K', tw', hr⟩ := h.bad ho
   exact ⟨K', tw', hr.kept g7 hRz⟩
theorem leaf_dup (k : Int) (s : List UInt8) : (JV.mk k s [] []).dup = false := by rw [JV.dup, dupL]
set_option maxRecDepth 100000 in
set_option maxHeartbeats 4000000 in
theorem value_any : ∀ n, ValC n := by
 intro n
 induction n using Nat.strongRecOn with
 | ind n ih =>
 intro w R K tw h hkw hn
 cases K with
 | nil =>
  refine (value_bad h (.inr rfl)).mono ?_
  rintro e w' ⟨rfl, hg, hr'⟩
  have hv : valP n [] = none := by cases n <;> rw [valP]
  exact ⟨0, ⟨#[]⟩, none, 0, 0, none, 0, 0, rfl, ⟨hg, fun v r h => (by rw [hv] at h; cases h), fun _ => ⟨_, _, hr'⟩⟩⟩
 | cons y K =>
 obtain ⟨k, x⟩ := y
 obtain ⟨n, rfl⟩ : ∃ m, n = m + 1 := ⟨n - 1, by omega⟩
 simp only [List.length_cons] at hn
 have hV := valP_cons n k x K
 have hlt := h.lt
 obtain ⟨W, hW⟩ : ∃ W, w.alloc (.cells #[.int .i64 0, .string ⟨#[]⟩, .slice none 0 0, .slice none 0 0] 25) = W := ⟨_, rfl⟩
 have bW : Below w.heap.size w W := by rw [← hW]; exact (Below.refl _ _).alloc (Nat.le_refl _) _
 have hsz : W.heap.size = w.heap.size + 1 := by rw [← hW]; simp
 have hz0 : JBox W w.heap.size := by rw [← hW]; exact JBox.alloc _ _ _ _ _
 have h' := h.below bW
 have h'0 := h'
 obtain ⟨p, c, h1, h2, h3, h4⟩ := h'0
 obtain ⟨c0, c1, c2, cf⟩ := cells3 h1
 obtain ⟨b, o, rfl, hb, k0, k1, hx, hk4, hwd, u, v, k2, k3⟩ := h4 0 k x rfl
 rw [Nat.zero_mul, Nat.add_zero] at k0 k1 k2 k3
 simp only [List.length_cons] at c0
 have g0 : w.grownBy W (some R) := gb_below bW
 have hkw2 : kw K ≤ 100000000 := by rw [kw] at hkw; omega
 have HB0 := Lib.hid hz0
 have HG0 := Lib.hid g0
 have HSZ := Lib.hid hsz
 have HRD := Lib.hid h'
 have hi1 := is_any h' ⟨#[123]⟩
 have HW := Lib.hid hwd
 have HX := Lib.hid hx
 have HLT := Lib.hid hlt
 clear h h' h1 h2 h3 h4 hz0 g0 hsz bW cf hkw hwd hx hlt hb
 by_cases e1 : ((k, x) :: K : List KT).head? = some (1, (⟨#[123]⟩ : ByteArray).data.toList)
 · have e1' : (k, x) = (1, [123]) := Option.some.inj e1
   injection e1' with e2 e3
   subst e2 e3
   rw [if_pos e1, decide_eq_true e1, List.tail_cons] at hi1
   have hV2 : valP (n + 1) ((1, [123]) :: K) = lisP n true K := hV
   have HV := Lib.hid hV2
   have HO : Hid (∀ w1, RD w1 R K false tw → Calls Tryz.prog 164 #[.pointer (some ⟨R, 0, none⟩)] w1 (ValPost w1 R tw (lisP n true K))) := Lib.hid fun w1 hr => object_any (fun m hm => ih m (by omega)) hr hkw2 (by omega)
   clear hV hV2 e1 ih
   go_enter Tryz.func112, Tryz.ntmps112
   go_wp2_with (first
    | (go_at_call 163; refine hi1.mono ?_; rintro e w1 ⟨rfl, g1, r1, s1⟩)
    | (go_at_call 164; refine (HO.out w1 r1).mono ?_; rintro e w2 ⟨vk, vS, vp, vn, vc, vp', vn', vc', rfl, hvp⟩
       have hbx : JBox w2 w.heap.size := (HB0.out.same (g1.block _ HB0.out.lt (fun e => absurd (Option.some.inj e) (Nat.ne_of_gt HLT.out)))).same (hvp.gb.block _ (by have := HB0.out.lt; omega) (fun e => absurd (Option.some.inj e) (Nat.ne_of_gt HLT.out)))
       have HB := Lib.hid hbx
       clear hbx)
    | (refine store_val rfl (.tmp 2) (.tmp 25) rfl w.heap.size rfl (.int .i64 vk) (.string vS) (.slice vp vn vc) (.slice vp' vn' vc') rfl rfl HB.out (fun V hV hgV _ => ?_)))
   have hs1 := HSZ.out
   have hl1 := HLT.out
   refine bodyPost_ret (ret_val Tryz.results112 rfl hV) rfl ⟨vk, vS, vp, vn, vc, vp', vn', vc', rfl, ?_⟩
   rw [HV.out]
   exact hvp.wide (Nat.le_refl _) (by omega) hl1 (HG0.out.trans g1) hgV
 · rw [if_neg e1, decide_eq_false e1] at hi1
   by_cases e5 : ((k, x) :: K : List KT).head? = some (1, (⟨#[91]⟩ : ByteArray).data.toList)
   · have e5' : (k, x) = (1, [91]) := Option.some.inj e5
     injection e5' with e2 e3
     subst e2 e3
     have hV2 : valP (n + 1) ((1, [91]) :: K) = lisP n false K := hV
     have HV := Lib.hid hV2
     have HE5 := Lib.hid e5
     have HO : Hid (∀ w1, RD w1 R K false tw → Calls Tryz.prog 165 #[.pointer (some ⟨R, 0, none⟩)] w1 (ValPost w1 R tw (lisP n false K))) := Lib.hid fun w1 hr => array_any (fun m hm => ih m (by omega)) hr hkw2 (by omega)
     clear hV hV2 e1 e5 ih
     go_enter Tryz.func112, Tryz.ntmps112
     go_wp2_with (first
      | (go_at_call 163; refine hi1.mono ?_; rintro e w1 ⟨rfl, g1, r1, s1⟩; have hi2 := is_any r1 ⟨#[91]⟩; rw [if_pos HE5.out, decide_eq_true HE5.out, List.tail_cons] at hi2; clear hi1)
      | (go_at_call 163; refine hi2.mono ?_; rintro e w3 ⟨rfl, g3, r3, s3⟩)
      | (go_at_call 165; refine (HO.out w3 r3).mono ?_; rintro e w2 ⟨vk, vS, vp, vn, vc, vp', vn', vc', rfl, hvp⟩
         have g13 := g1.trans g3
         have hbx : JBox w2 w.heap.size := (HB0.out.same (g13.block _ HB0.out.lt (fun e => absurd (Option.some.inj e) (Nat.ne_of_gt HLT.out)))).same (hvp.gb.block _ (by have := HB0.out.lt; omega) (fun e => absurd (Option.some.inj e) (Nat.ne_of_gt HLT.out)))
         have HB := Lib.hid hbx
         clear hbx)
      | (refine store_val rfl (.tmp 2) (.tmp 30) rfl w.heap.size rfl (.int .i64 vk) (.string vS) (.slice vp vn vc) (.slice vp' vn' vc') rfl rfl HB.out (fun V hV hgV _ => ?_)))
     have hs1 := HSZ.out
     have hl1 := HLT.out
     refine bodyPost_ret (ret_val Tryz.results112 rfl hV) rfl ⟨vk, vS, vp, vn, vc, vp', vn', vc', rfl, ?_⟩
     rw [HV.out]
     exact hvp.wide (Nat.le_refl _) (by omega) hl1 (HG0.out.trans (g1.trans g3)) hgV
   · have HE5 := Lib.hid e5
     have HNE : Hid (¬ (k = 1 ∧ x = [91]) ∧ ¬ (k = 1 ∧ x = [123])) := Lib.hid ⟨fun h => e5 (by rw [h.1, h.2]; rfl), fun h => e1 (by rw [h.1, h.2]; rfl)⟩
     have HV := Lib.hid hV
     clear hV e1 e5 ih
     go_enter Tryz.func112, Tryz.ntmps112
     go_upto_region 8 with (first
      | (go_at_call 163; refine hi1.mono ?_; rintro e w1 ⟨rfl, g1, r1, s1⟩; have hi2 := is_any r1 ⟨#[91]⟩; rw [if_neg HE5.out, decide_eq_false HE5.out] at hi2; clear hi1)
      | (go_at_call 163; refine hi2.mono ?_; rintro e w3 ⟨rfl, g3, r3, s3⟩))
     clear c0 c1 c2 k0 k1 k2 k3
     have G3 := Lib.hid (HG0.out.trans (g1.trans g3))
     have hb3 : JBox w3 w.heap.size := (HB0.out.same (g1.block _ HB0.out.lt (fun e => absurd (Option.some.inj e) (Nat.ne_of_gt HLT.out)))).same (g3.block _ (by have := HB0.out.lt; omega) (fun e => absurd (Option.some.inj e) (Nat.ne_of_gt HLT.out)))
     have HB3 := Lib.hid hb3
     have HR3 := Lib.hid r3
     obtain ⟨p, c, q1, q2, q3, q4⟩ := r3
     obtain ⟨c0, c1, c2, cf⟩ := cells3 q1
     obtain ⟨b, o, rfl, hb, k0, k1, -, -, -, u, v, k2, k3⟩ := q4 0 k x rfl
     rw [Nat.zero_mul, Nat.add_zero] at k0 k1 k2 k3
     obtain ⟨X, hX⟩ : ∃ X : ByteArray, (⟨x.toArray⟩ : ByteArray) = X := ⟨_, rfl⟩
     rw [hX] at k1
     simp only [List.length_cons] at c0
     clear q1 q2 q3 q4 cf g1 g3 hb3 r1 hi2 hb
     have HA : Hid (∀ V, w3.alloc (.cells #[.int .i64 k, .string X, .int .i64 u, .int .i64 v] 222) = V → RD V R ((k, x) :: K) false tw ∧ JBox V w.heap.size ∧ w.grownBy V (some R)) := Lib.hid fun V hV => by
      have bV : Below w3.heap.size w3 V := by rw [← hV]; exact (Below.refl _ _).alloc (Nat.le_refl _) _
      exact ⟨HR3.out.below bV, HB3.out.same (bV.block _ HB3.out.lt), G3.out.trans (gb_below bV)⟩
     have fin : ∀ (w2 V : World) (kk : Int) (s : List UInt8), s.length ≤ 16777216 → w.grownBy w2 (some R) → RD w2 R K false tw → w2.grownBy V (some w.heap.size) → valP (n + 1) ((k, x) :: K) = some (.mk kk s [] [], K) → VP w R tw (valP (n + 1) ((k, x) :: K)) kk ⟨s.toArray⟩ none 0 0 none 0 0 V := fun w2 V kk s hs g r g7 ho => VP.leaf (Nat.le_refl _) HLT.out hs g r g7 ho (leaf_dup _ _)
     have FIN := Lib.hid fin
     clear fin
     by_cases h3 : k = 3
     · subst h3
       have hv3 : valP (n + 1) ((3, x) :: K) = some (.mk 3 x [] [], K) := by rw [HV.out]; simp
       have HV3 := Lib.hid hv3
       have htk : ∀ V, RD V R ((3, x) :: K) false tw → _ := fun V hr => take_any hr
       rw [hX] at htk
       have HTK := Lib.hid htk
       have HXX := Lib.hid hX
       clear hv3 htk hX
       go_wp2_with (first
        | (go_at_call 166; refine (HTK.out _ (HA.out _ rfl).1).mono ?_; rintro e w4 ⟨rfl, g4, r4, s4⟩
           have hbx : JBox w4 w.heap.size := ((HA.out _ rfl).2.1).same (g4.block _ ((HA.out _ rfl).2.1).lt (fun e => absurd (Option.some.inj e) (Nat.ne_of_gt HLT.out)))
           have HB := Lib.hid hbx
           clear hbx)
        | (refine store_val rfl (.tmp 2) (.tmp 45) rfl w.heap.size rfl (.int .i64 3) (.string X) (.slice none 0 0) (.slice none 0 0) rfl rfl HB.out (fun V hV hgV _ => ?_)))
       refine bodyPost_ret (ret_val Tryz.results112 rfl hV) rfl ⟨3, X, none, 0, 0, none, 0, 0, rfl, ?_⟩
       rw [← HXX.out]
       exact FIN.out _ _ 3 x HX.out ((HA.out _ rfl).2.2.trans g4) r4 hgV HV3.out
     · by_cases h4 : k = 4
       · subst h4
         have hv3 : valP (n + 1) ((4, x) :: K) = some (.mk 4 x [] [], K) := by rw [HV.out]; simp
         have HV3 := Lib.hid hv3
         have htk : ∀ V, RD V R ((4, x) :: K) false tw → _ := fun V hr => take_any hr
         rw [hX] at htk
         have HTK := Lib.hid htk
         have HXX := Lib.hid hX
         clear hv3 htk hX
         go_wp2_with (first
          | (go_at_call 166; refine (HTK.out _ (HA.out _ rfl).1).mono ?_; rintro e w4 ⟨rfl, g4, r4, s4⟩
             have hbx : JBox w4 w.heap.size := ((HA.out _ rfl).2.1).same (g4.block _ ((HA.out _ rfl).2.1).lt (fun e => absurd (Option.some.inj e) (Nat.ne_of_gt HLT.out)))
             have HB := Lib.hid hbx
             clear hbx)
          | (refine store_val rfl (.tmp 2) (.tmp 52) rfl w.heap.size rfl (.int .i64 4) (.string X) (.slice none 0 0) (.slice none 0 0) rfl rfl HB.out (fun V hV hgV _ => ?_)))
         refine bodyPost_ret (ret_val Tryz.results112 rfl hV) rfl ⟨4, X, none, 0, 0, none, 0, 0, rfl, ?_⟩
         rw [← HXX.out]
         exact FIN.out _ _ 4 x HX.out ((HA.out _ rfl).2.2.trans g4) r4 hgV HV3.out
       · by_cases h2 : k = 2
         · subst h2
           have htk : ∀ V, RD V R ((2, x) :: K) false tw → _ := fun V hr => take_any hr
           rw [hX] at htk
           have HTK := Lib.hid htk
           have hwx := HW.out rfl
           rcases hwx with rfl | rfl | rfl
           · have hXe : X = ⟨#[110, 117, 108, 108]⟩ := hX.symm.trans rfl
             obtain ⟨t1a, t1b, t1c⟩ : ¬ X.toList = [116, 114, 117, 101] ∧ (X.toList == [116, 114, 117, 101]) = false ∧ (X.toList != [116, 114, 117, 101]) = true := by rw [hXe, ByteArray.toList_eq]; decide
             obtain ⟨t2a, t2b, t2c⟩ : ¬ X.toList = [102, 97, 108, 115, 101] ∧ (X.toList == [102, 97, 108, 115, 101]) = false ∧ (X.toList != [102, 97, 108, 115, 101]) = true := by rw [hXe, ByteArray.toList_eq]; decide
             have HV3 : Hid (valP (n + 1) ((2, wNull) :: K) = some (.mk 0 [] [] [], K)) := Lib.hid (by rw [HV.out]; rfl)
             clear hXe htk hX
             go_wp2_with (first
              | (go_at_call 166; refine (HTK.out _ (HA.out _ rfl).1).mono ?_; rintro e w4 ⟨rfl, g4, r4, s4⟩
                 have hbx : JBox w4 w.heap.size := ((HA.out _ rfl).2.1).same (g4.block _ ((HA.out _ rfl).2.1).lt (fun e => absurd (Option.some.inj e) (Nat.ne_of_gt HLT.out)))
                 have HB := Lib.hid hbx
                 clear hbx)
              | (refine store_val rfl (.tmp 2) (.tmp 61) rfl w.heap.size rfl (.int .i64 0) (.string ⟨#[]⟩) (.slice none 0 0) (.slice none 0 0) rfl rfl HB.out (fun V hV hgV _ => ?_)))
             refine bodyPost_ret (ret_val Tryz.results112 rfl hV) rfl ⟨0, ⟨#[]⟩, none, 0, 0, none, 0, 0, rfl, ?_⟩
             exact FIN.out _ _ 0 [] (Nat.zero_le _) ((HA.out _ rfl).2.2.trans g4) r4 hgV HV3.out
           · have hXe : X = ⟨#[102, 97, 108, 115, 101]⟩ := hX.symm.trans rfl
             obtain ⟨t1a, t1b, t1c⟩ : ¬ X.toList = [116, 114, 117, 101] ∧ (X.toList == [116, 114, 117, 101]) = false ∧ (X.toList != [116, 114, 117, 101]) = true := by rw [hXe, ByteArray.toList_eq]; decide
             obtain ⟨t2a, t2b, t2c⟩ : X.toList = [102, 97, 108, 115, 101] ∧ (X.toList == [102, 97, 108, 115, 101]) = true ∧ (X.toList != [102, 97, 108, 115, 101]) = false := by rw [hXe, ByteArray.toList_eq]; decide
             have HV3 : Hid (valP (n + 1) ((2, wFalse) :: K) = some (.mk 1 [] [] [], K)) := Lib.hid (by rw [HV.out]; rfl)
             clear hXe htk hX
             go_wp2_with (first
              | (go_at_call 166; refine (HTK.out _ (HA.out _ rfl).1).mono ?_; rintro e w4 ⟨rfl, g4, r4, s4⟩
                 have hbx : JBox w4 w.heap.size := ((HA.out _ rfl).2.1).same (g4.block _ ((HA.out _ rfl).2.1).lt (fun e => absurd (Option.some.inj e) (Nat.ne_of_gt HLT.out)))
                 have HB := Lib.hid hbx
                 clear hbx)
              | (refine store_val rfl (.tmp 2) (.tmp 60) rfl w.heap.size rfl (.int .i64 1) (.string ⟨#[]⟩) (.slice none 0 0) (.slice none 0 0) rfl rfl HB.out (fun V hV hgV _ => ?_)))
             refine bodyPost_ret (ret_val Tryz.results112 rfl hV) rfl ⟨1, ⟨#[]⟩, none, 0, 0, none, 0, 0, rfl, ?_⟩
             exact FIN.out _ _ 1 [] (Nat.zero_le _) ((HA.out _ rfl).2.2.trans g4) r4 hgV HV3.out
           · have hXe : X = ⟨#[116, 114, 117, 101]⟩ := hX.symm.trans rfl
             obtain ⟨t1a, t1b, t1c⟩ : X.toList = [116, 114, 117, 101] ∧ (X.toList == [116, 114, 117, 101]) = true ∧ (X.toList != [116, 114, 117, 101]) = false := by rw [hXe, ByteArray.toList_eq]; decide
             have HV3 : Hid (valP (n + 1) ((2, wTrue) :: K) = some (.mk 2 [] [] [], K)) := Lib.hid (by rw [HV.out]; rfl)
             clear hXe htk hX
             go_wp2_with (first
              | (go_at_call 166; refine (HTK.out _ (HA.out _ rfl).1).mono ?_; rintro e w4 ⟨rfl, g4, r4, s4⟩
                 have hbx : JBox w4 w.heap.size := ((HA.out _ rfl).2.1).same (g4.block _ ((HA.out _ rfl).2.1).lt (fun e => absurd (Option.some.inj e) (Nat.ne_of_gt HLT.out)))
                 have HB := Lib.hid hbx
                 clear hbx)
              | (refine store_val rfl (.tmp 2) (.tmp 57) rfl w.heap.size rfl (.int .i64 2) (.string ⟨#[]⟩) (.slice none 0 0) (.slice none 0 0) rfl rfl HB.out (fun V hV hgV _ => ?_)))
             refine bodyPost_ret (ret_val Tryz.results112 rfl hV) rfl ⟨2, ⟨#[]⟩, none, 0, 0, none, 0, 0, rfl, ?_⟩
             exact FIN.out _ _ 2 [] (Nat.zero_le _) ((HA.out _ rfl).2.2.trans g4) r4 hgV HV3.out
         · skip
           have hv0 : valP (n + 1) ((k, x) :: K) = none := by
            rw [HV.out, if_neg h2, if_neg h3, if_neg h4, if_neg HNE.out.1, if_neg HNE.out.2]
           have HV0 := Lib.hid hv0
           have HTK : Hid (∀ V, RD V R ((k, x) :: K) false tw → _) := Lib.hid fun V hr => take_bad (k := 2) hr (.inr fun y hy => h2 (by injection hy with hy; injection hy))
           have n3 : ((k : Int) == 3) = false := beq_eq_false_iff_ne.2 (by omega)
           have n4 : ((k : Int) == 4) = false := beq_eq_false_iff_ne.2 (by omega)
           have t1 := str_ne (show ¬ (⟨#[]⟩ : ByteArray) = ⟨#[116, 114, 117, 101]⟩ by decide)
           have t2 := str_ne (show ¬ (⟨#[]⟩ : ByteArray) = ⟨#[102, 97, 108, 115, 101]⟩ by decide)
           clear hv0 hX h2 h3 h4
           go_wp2_with (first
            | (go_at_call 166; refine (HTK.out _ (HA.out _ rfl).1).mono ?_; rintro e w4 ⟨rfl, g4, r4, s4⟩
               have hbx : JBox w4 w.heap.size := ((HA.out _ rfl).2.1).same (g4.block _ ((HA.out _ rfl).2.1).lt (fun e => absurd (Option.some.inj e) (Nat.ne_of_gt HLT.out)))
               have HB := Lib.hid hbx
               clear hbx)
            | (refine store_val rfl (.tmp 2) (.tmp 61) rfl w.heap.size rfl (.int .i64 0) (.string ⟨#[]⟩) (.slice none 0 0) (.slice none 0 0) rfl rfl HB.out (fun V hV hgV _ => ?_)))
           refine bodyPost_ret (ret_val Tryz.results112 rfl hV) rfl ⟨0, ⟨#[]⟩, none, 0, 0, none, 0, 0, rfl, ?_⟩
           exact ⟨((HA.out _ rfl).2.2.trans g4).andThen hgV fun j e => .inl (by cases e; exact Nat.le_refl _), fun v r h => (by rw [HV0.out] at h; cases h), fun _ => ⟨_, _, r4.kept hgV HLT.out⟩⟩
end Go.Proofs.Jt
/- VD: Merged texts: V24, V25. -/
/- V24: Parse: words in memory; deep. -/
namespace Go.Proofs.Jt
open Go.RowKit Go.Maps Go.Lib Go.Proofs.Utf Go.Proofs

theorem word_is {l : List UInt8} {x : List UInt8} {m : Nat} (h : nextL l = some (2, x, m)) : x = wNull ∨ x = wFalse ∨ x = wTrue := by
 cases l with
 | nil => cases h
 | cons c t =>
  rw [nextL_cons] at h
  split at h
  · cases h
  · split at h
    · obtain ⟨q, hq, e⟩ := Option.map_eq_some_iff.1 h
      cases e
    · split at h
      · rename_i hw
        cases h
        have hd : ∀ n, wordN (c :: t) = n → 0 < n → isWord ((c :: t).take n) = true := fun n hn h0 => by
         unfold wordN at hn
         split at hn
         · rename_i hi
           rw [hn] at hi
           exact hi
         · omega
        have := hd _ rfl hw
        unfold isWord at this
        rw [decide_eq_true_eq] at this
        rcases this with h | h | h
        · exact .inr (.inr h)
        · exact .inr (.inl h)
        · exact .inl h
      · split at h
        · cases h
        · cases h
/-- what words of a text are -/
def WK (K : List KT) : Prop := ∀ k x, (k, x) ∈ K → k ≤ 4 ∧ (k = 2 → x = wNull ∨ x = wFalse ∨ x = wTrue) ∧ x.length ≤ 16777216
theorem next_kind {l : List UInt8} {k : Nat} {x : List UInt8} {m : Nat} (h : nextL l = some (k, x, m)) : k ≤ 4 := by
 cases l with
 | nil => cases h
 | cons c t =>
  rw [nextL_cons] at h
  split at h
  · cases h; omega
  · split at h
    · obtain ⟨q, hq, e⟩ := Option.map_eq_some_iff.1 h
      cases e; omega
    · split at h
      · cases h; omega
      · split at h
        · cases h; omega
        · cases h
theorem Lx.wk {l : List UInt8} {a : Nat} {T : List Tok} (h : Lx l a T) (hl : l.length ≤ 16777216) : WK (kt T) := by
 induction h with
 | nil a => intro k x hk; cases hk
 | blank h _ ih => exact ih (by rw [List.length_cons] at hl; omega)
 | @tok c t a T k x m h h1 h2 ih =>
  intro k' x' hk
  rcases List.mem_cons.1 hk with e | hk
  · cases e
    have hm := nextL_le _ _ h1
    have hx := next_len h1
    simp only at hm
    exact ⟨next_kind h1, fun e => by rw [show (Tok.mk k x a (a + m)).kind = k from rfl] at e; subst e; exact word_is h1, by show x.length ≤ _; omega⟩
  · exact ih (by rw [List.length_drop]; omega) k' x' hk
theorem tokP_row {w : World} {B R : Nat} {v : Value} {T : List Tok} (h : w.ownsRow B 222 4 v T.length (tokCells T)) (hR : w.heap.size ≤ R) (hw : WK (kt T)) : ∃ p c, v = .slice p (kt T).length c ∧ (kt T).length ≤ c ∧ c ≤ maxLen ∧ TokP w R p (kt T) := by
 have hl : (kt T).length = T.length := List.length_map ..
 rcases h.2 with ⟨rfl, h2⟩ | ⟨g, cap, cur, rfl, h2, h3, h4, h5, h6, h7⟩
 · have e : T = [] := List.eq_nil_of_length_eq_zero h2
   subst e
   exact ⟨none, 0, rfl, Nat.le_refl _, Nat.zero_le _, fun i k x hk => by cases hk⟩
 · refine ⟨some ⟨g, 0, none⟩, cap, by rw [hl], by rw [hl]; exact h4, h5, fun i k x hk => ?_⟩
   unfold kt at hk
   rw [List.getElem?_map] at hk
   cases ht : T[i]? with
   | none => rw [ht] at hk; cases hk
   | some j =>
    rw [ht] at hk
    obtain ⟨rfl, rfl⟩ : j.kind = k ∧ j.text = x := by have := Option.some.inj hk; injection this with a b; exact ⟨a, b⟩
    have hm := hw j.kind j.text (List.mem_map.2 ⟨j, List.mem_of_getElem? ht, rfl⟩)
    obtain ⟨g', cap', e1, _, hc⟩ := toks_at h (by have := (List.getElem?_eq_some_iff.1 ht).1; omega)
    injection e1 with e1
    injection e1 with e1
    injection e1 with e1
    subst e1
    obtain ⟨c0, c1, c2, c3, hgl⟩ := hc i j ht
    refine ⟨g, 0, rfl, by omega, by rw [Nat.zero_add]; exact c0, by rw [Nat.zero_add]; exact c1, hm.2.2, hm.1, hm.2.1, _, _, by rw [Nat.zero_add]; exact c2, by rw [Nat.zero_add]; exact c3⟩
/-- how deep, from a place on -/
theorem open_big : ∀ (K : List KT) (n h : Nat), 64 < h → 64 < openN K n h
 | K, n, h, hh => Nat.lt_of_lt_of_le hh (openN_le K n h)
set_option maxRecDepth 100000 in
set_option maxHeartbeats 4000000 in
theorem deep_any {w : World} {p : Option Addr} {c R : Nat} {K : List KT} (h : TokP w R p K) (_hc : K.length ≤ c) (hl : K.length ≤ 100000000) :
 Calls Tryz.prog 111 #[.slice p K.length c] w fun e w' => e = .returned (.bool (decide (64 < openN K 0 0))) ∧ Below w.heap.size w w' := by
 obtain ⟨D, hD⟩ : ∃ D, decide (64 < openN K 0 0) = D := ⟨_, rfl⟩
 rw [hD]
 have HD := Lib.hid hD
 have HT := Lib.hid h
 clear h hD
 go_enter Tryz.func111, Tryz.ntmps111
 go_wp2_with fail
 go_loopw [3, 8] (fun nv iv wr => ∃ (j n h : Nat), iv = .int .i64 j ∧ j ≤ K.length ∧ nv = .int .i64 n ∧ n ≤ h ∧ h ≤ 64 ∧ decide (64 < openN (K.drop j) n h) = D ∧ Below w.heap.size w wr) (fun _ iv _ => K.length - (RowKit.intOf iv).toNat)
 case atStart => exact ⟨0, 0, 0, rfl, Nat.zero_le _, rfl, Nat.le_refl _, by omega, by rw [List.drop_zero]; exact HD.out, Below.refl _ _⟩
 case round =>
  obtain ⟨j, n, h, rfl, hj, rfl, hn, hh, hO, hB⟩ := hrel
  by_cases hjn : (j : Int) < (K.length : Int)
  · obtain ⟨y, hy⟩ : ∃ y, K[j]? = some y := ⟨_, List.getElem?_eq_getElem (by omega)⟩
    obtain ⟨k, x⟩ := y
    obtain ⟨b, o, rfl, -, k0, k1, hx, hk4, -, u, v, k2, k3⟩ := HT.out j k x hy
    have e0 := hB.cell (p := ⟨b, o + j * 4, none⟩) (cell_blk k0)
    have e1 := hB.cell (p := ⟨b, o + j * 4 + 1, none⟩) (cell_blk k1)
    have e2 := hB.cell (p := ⟨b, o + j * 4 + 2, none⟩) (cell_blk k2)
    have e3 := hB.cell (p := ⟨b, o + j * 4 + 3, none⟩) (cell_blk k3)
    rw [k0] at e0
    rw [k1] at e1
    rw [k2] at e2
    rw [k3] at e3
    obtain ⟨X, hX⟩ : ∃ X : ByteArray, (⟨x.toArray⟩ : ByteArray) = X := ⟨_, rfl⟩
    rw [hX] at e1
    rw [drop_cons hy, openN_cons] at hO
    have hBa := hB.alloc hB.size (.cells #[.int .i64 k, .string X, .int .i64 u, .int .i64 v] 222)
    have HBA := Lib.hid hBa
    have hXl : X.toList = x := by rw [ByteArray.toList_eq, ← hX]
    clear k0 k1 k2 k3 hBa hx hX
    by_cases hk : k = 1
    · subst hk
      by_cases ho : x = [91] ∨ x = [123]
      · rw [if_pos ⟨rfl, ho⟩] at hO
        have HO := Lib.hid hO
        clear hO
        by_cases hbig : 64 < n + 1
        · have hDt : D = true := by rw [← HO.out]; exact decide_eq_true (open_big _ _ _ (by omega))
          have HDt := Lib.hid hDt
          clear hDt
          rcases ho with rfl | rfl
          all_goals
           go_wp2_with fail
           go_ret
           exact ⟨by rw [HDt.out]; rfl, HBA.out⟩
        · rcases ho with rfl | rfl
          all_goals
           go_wp2_with fail
           go_roundw
           case rel => exact ⟨j + 1, n + 1, max (n + 1) h, by go_num, by omega, by first | rfl | go_num, by omega, by omega, HO.out, HBA.out⟩
           case measure => simp [RowKit.intOf]; omega
      · rw [if_neg (fun e => ho e.2)] at hO
        have f1 : ¬ X.toList = [91] := fun e => ho (.inl (by rw [← hXl, e]))
        have f2 : ¬ X.toList = [123] := fun e => ho (.inr (by rw [← hXl, e]))
        have f3 : (X.toList == [91]) = false := beq_eq_false_iff_ne.2 f1
        have f4 : (X.toList == [123]) = false := beq_eq_false_iff_ne.2 f2
        by_cases hcl : x = [93] ∨ x = [125]
        · rw [if_pos ⟨rfl, hcl⟩] at hO
          have HO := Lib.hid hO
          clear hO f1 f2 f3 f4 ho
          have hmx : max (n - 1) h = h := by omega
          rcases hcl with rfl | rfl
          all_goals
           clear hmx
           go_wp2_with fail
           go_roundw
           case rel => exact ⟨j + 1, n - 1, max (n - 1) h, by go_num, by omega, by first | rfl | go_num, by omega, by omega, HO.out, HBA.out⟩
           case measure => simp [RowKit.intOf]; omega
        · rw [if_neg (fun e => hcl e.2)] at hO
          have f5 : ¬ X.toList = [93] := fun e => hcl (.inl (by rw [← hXl, e]))
          have f6 : ¬ X.toList = [125] := fun e => hcl (.inr (by rw [← hXl, e]))
          have f7 : (X.toList == [93]) = false := beq_eq_false_iff_ne.2 f5
          have f8 : (X.toList == [125]) = false := beq_eq_false_iff_ne.2 f6
          have HO := Lib.hid hO
          clear hO hcl ho hXl
          go_wp2_with fail
          go_roundw
          case rel => exact ⟨j + 1, n, max n h, by go_num, by omega, rfl, by omega, by omega, HO.out, HBA.out⟩
          case measure => simp [RowKit.intOf]; omega
    · have hnk : ¬ (k = 1 ∧ (x = [91] ∨ x = [123])) := fun e => hk e.1
      have hnk2 : ¬ (k = 1 ∧ (x = [93] ∨ x = [125])) := fun e => hk e.1
      rw [if_neg hnk, if_neg hnk2] at hO
      have n1 : ((k : Int) != 1) = true := by simp; omega
      have HO := Lib.hid hO
      clear hO hnk hnk2 hXl hk
      go_wp2_with fail
      go_roundw
      case rel => exact ⟨j + 1, n, max n h, by go_num, by omega, rfl, by omega, by omega, HO.out, HBA.out⟩
      case measure => simp [RowKit.intOf]; omega
  · go_wp2_with fail
    go_ret
    have : j = K.length := by omega
    subst this
    rw [List.drop_length, openN] at hO
    exact ⟨by rw [← hO, decide_eq_false (by omega)]; rfl, hB⟩
end Go.Proofs.Jt
/- V25: Parse. -/
namespace Go.Proofs.Jt
open Go.RowKit Go.Maps Go.Lib Go.Proofs.Utf Go.Proofs

theorem ret_val2 {fn : Func} {p u : Tmp} (h : fn.results = #[.cell p 25, .tmp u]) {tmps : Array Value} {w : World} {g : Nat} (hp : tmps.getD p undef = .pointer (some ⟨g, 0, none⟩)) {v0 v1 v2 v3 e : Value} (he : tmps.getD u undef = e) (hg : w.heap[g]? = some (.cells #[v0, v1, v2, v3] 25 (0, 0))) :
 (results fn tmps).run Tryz.prog w = .ok (.tuple #[.agg #[v0, v1, v2, v3], e]) w := by
 rw [results_cell_tmp h, hp, he]
 have hl := run_loadVar_row (P := Tryz.prog) w g 25 25 #[v0, v1, v2, v3] (0, 0) _ hg Tryz.underlying25 rfl (by kernel_rfl)
 simp only [asAddr, Sem.run_pure, Result.andThen_ok, hl]
/-- a value and an error, given back -/
structure PP (w : World) (l : List UInt8) (e : Ending) (w' : World) : Prop where
 ret : ∃ kp kc ip ic, e = .returned (.tuple #[jval (parV l).1 kp kc ip ic, .int .i64 ((parV l).2 : Nat)]) ∧ KP w' (w.heap.size ≤ ·) (parV l).1 kp kc ip ic ∧ (parV l).1.str.length ≤ maxLen
 below : Below w.heap.size w w'
theorem PP.zero {w w' : World} {l : List UInt8} {n : Nat} (h : parV l = (jn 0, n)) (hb : Below w.heap.size w w') {e : Ending} (he : e = .returned (.tuple #[.agg #[.int .i64 0, .string ⟨#[]⟩, .slice none 0 0, .slice none 0 0], .int .i64 (n : Nat)])) : PP w l e w' := by
 refine ⟨⟨none, 0, none, 0, ?_, ?_, ?_⟩, hb⟩
 · rw [h]; exact he
 · rw [h]; exact KP.leaf _ _ _ _
 · rw [h]; exact Nat.zero_le _
theorem below_gbz {w w' W : World} {z : Nat} (hb : Below w.heap.size w w') (hz : w.heap.size ≤ z) (hg : w'.grownBy W (some z)) : Below w.heap.size w W :=
 hb.grown hg hb.size fun k e => by cases e; exact hz
theorem gb_to_below {w w' : World} {B r : Nat} (h : w.grownBy w' (some r)) (hB : B ≤ r) (hs : B ≤ w.heap.size) : Below B w w' := ⟨h.os, h.tape, h.output, h.size, fun k hk => h.block k (by omega) (fun e => by have := Option.some.inj e; omega)⟩
theorem TokP.up {w : World} {R R' : Nat} {p : Option Addr} {K : List KT} (h : TokP w R p K) (hR : R ≤ R') : TokP w R' p K := fun i k x hk => by
 obtain ⟨b, o, h1, h2, h3⟩ := h i k x hk
 exact ⟨b, o, h1, Nat.lt_of_lt_of_le h2 hR, h3⟩
theorem val_start {w2 w3 : World} {p : Option Addr} {c : Nat} {K : List KT} {bad tw : Bool} (h : TokP w2 w2.heap.size p K) (hc : K.length ≤ c) (hm : c ≤ maxLen) (hb : Below w2.heap.size w2 w3) : RD (w3.alloc (.cells #[.slice p K.length c, .bool bad, .bool tw] 170)) w3.heap.size K bad tw :=
 ⟨p, c, World.alloc_heap_new w3 _, hc, hm, ((h.kept (w' := w3) fun b _hb2 hl => hb.block b hl).up hb.size).kept fun b _hb2 hl => ((Below.refl w3.heap.size w3).alloc (Nat.le_refl _) _).block b hl⟩
theorem parse_below {w w3 w5 : World} {r : Obj} {x : Obj} (h : Below w.heap.size w w3) (hg : (w3.alloc r).grownBy w5 (some w3.heap.size)) : Below w.heap.size w (w5.alloc x) := by
 have h1 := h.alloc h.size r
 have h2 := h1.trans (gb_to_below hg h.size h1.size)
 exact h2.alloc h2.size x
theorem parse_good {w w3 w5 V : World} {l : List UInt8} {r : Obj} {v : JV} {tw : Bool} {o : Option (JV × List KT)} {vk : Int} {vS : ByteArray} {vp vp' : Option Addr} {vn vc vn' vc' : Nat} (hp : parV l = (v, 0)) (ho : o = some (v, [])) (hvp : VP (w3.alloc r) w3.heap.size tw o vk vS vp vn vc vp' vn' vc' w5) (h : Below w.heap.size w w3)
 (hg : (w5.alloc (.cells #[.int .i64 vk, .string vS, .slice vp vn vc, .slice vp' vn' vc'] 25)).grownBy V (some w.heap.size)) : PP w l (.returned (.tuple #[.agg #[.int .i64 vk, .string vS, .slice vp vn vc, .slice vp' vn' vc'], .int .i64 0])) V := by
 obtain ⟨q1, q2, q3, q4⟩ := hvp.good v [] ho
 refine ⟨⟨vp, vc, vp', vc', ?_, ?_, ?_⟩, below_gbz (parse_below h hvp.gb) (Nat.le_refl _) hg⟩
 · rw [hp, q2]; rfl
 · rw [hp]
   have ha := World.grownBy_alloc w5 (.cells #[.int .i64 vk, .string vS, .slice vp vn vc, .slice vp' vn' vc'] 25) none
   have hs := h.size
   refine q3.keep (Nat.le_trans ha.size hg.size) (fun b hb hl => (hg.block b (Nat.lt_of_lt_of_le hl ha.size) (fun e => ?_)).trans (ha.block b hl (by simp))) fun b hb _ => ?_
   · have := Option.some.inj e
     rw [alloc_len] at hb
     omega
   · rw [alloc_len] at hb
     omega
 · rw [hp]; exact q4
set_option maxRecDepth 100000 in
set_option maxHeartbeats 4000000 in
theorem parse_any (s : ByteArray) (w : World) (hT : Tabs w) (hs : s.size ≤ 16777216) : Calls Tryz.prog 52 #[.string s] w (PP w s.data.toList) := by
 obtain ⟨W, hW⟩ : ∃ W, w.alloc (.cells #[.int .i64 0, .string ⟨#[]⟩, .slice none 0 0, .slice none 0 0] 25) = W := ⟨_, rfl⟩
 have bW : Below w.heap.size w W := by rw [← hW]; exact (Below.refl _ _).alloc (Nat.le_refl _) _
 have hz0 : JBox W w.heap.size := by rw [← hW]; exact JBox.alloc _ _ _ _ _
 have htk := tokens_any s W (hT.below bW) hs
 have hsl : s.data.toList.length = s.size := Array.length_toList
 obtain ⟨l, hl⟩ : ∃ l, s.data.toList = l := ⟨_, rfl⟩
 rw [hl] at htk hsl ⊢
 have hpar : parV l = if (toksL l).2.2 ≠ 0 then (jn 0, (toksL l).2.2) else if 64 < openN (kt (toksL l).1) 0 0 then (jn 0, 3) else match valP (2 * (toksL l).1.length + 1) (kt (toksL l).1) with
  | some (v, []) => if v.dup then (jn 0, 13) else (v, 0)
  | _ => (jn 0, 4) := rfl
 have hlx := @toks_lx l
 obtain ⟨T, A, E, hTK⟩ : ∃ T A E, toksL l = (T, A, E) := ⟨_, _, _, rfl⟩
 rw [hTK] at htk hpar hlx
 dsimp only at htk hpar hlx
 have HB0 := Lib.hid bW
 have HZ := Lib.hid hz0
 have HP := Lib.hid hpar
 have HSL := Lib.hid hsl
 clear hT hsl bW hz0 hl hTK
 by_cases hE : E = 0
 · obtain ⟨hv, hx⟩ := hlx hE
   have hwk : WK (kt T) := hx.wk (by have := HSL.out; omega)
   have hkw := hx.kw_le
   have hktl : (kt T).length = T.length := List.length_map ..
   have hTl : T.length ≤ 33554432 := by
    have h1 : ∀ K : List KT, K.length ≤ kw K := fun K => by
     induction K with
     | nil => exact Nat.le_refl _
     | cons y t ih => obtain ⟨k, x⟩ := y; simp only [List.length_cons, kw]; omega
    have := h1 (kt T)
    have := HSL.out
    omega
   have HWK := Lib.hid hwk
   have HKT := Lib.hid hktl
   have HKW : Hid (kw (kt T) ≤ 100000000) := Lib.hid (by have := HSL.out; omega)
   have HKL : Hid ((kt T).length ≤ 100000000) := Lib.hid (by omega)
   rw [if_neg (fun h => h hE)] at hpar
   subst hE
   clear hlx hv hx hwk hkw hktl hTl
   by_cases hd : 64 < openN (kt T) 0 0
   · rw [if_pos hd] at hpar
     have HPE := Lib.hid hpar
     have HD := Lib.hid (decide_eq_true hd)
     clear hd hpar HP
     go_enter Tryz.func52, Tryz.ntmps52
     go_wp2_with (first
      | (go_at_call 110; refine htk.mono ?_; rintro e w2 ⟨tv, rfl, hrow, hb2⟩
         obtain ⟨p, c, rfl, hc, hcm, hTP⟩ := tokP_row hrow (Nat.le_refl _) HWK.out
         have hdp := deep_any hTP hc HKL.out
         rw [HD.out] at hdp
         have HTP := Lib.hid hTP
         have HC := Lib.hid (And.intro hc hcm)
         clear hTP hc hcm hrow htk)
      | (go_at_call 111; refine hdp.mono ?_; rintro e w3 ⟨rfl, hb3⟩
         have hbx : JBox w3 w.heap.size := (HZ.out.same (hb2.block _ HZ.out.lt)).same (hb3.block _ (Nat.lt_of_lt_of_le HZ.out.lt hb2.size))
         have HB := Lib.hid hbx
         have HB3 := Lib.hid (hb2.trans (hb3.mono hb2.size))
         have HVAL := Lib.hid (val_start (tw := false) (bad := false) (HTP.out) HC.out.1 HC.out.2 hb3)
         clear hbx hdp)
      | (refine store_val rfl (.tmp 2) (.tmp 21) rfl w.heap.size rfl (.int .i64 0) (.string ⟨#[]⟩) (.slice none 0 0) (.slice none 0 0) rfl rfl HB.out (fun V hV hgV _ => ?_)))
     refine bodyPost_ret (ret_val2 Tryz.results52 rfl rfl hV) rfl (PP.zero HPE.out ?_ rfl)
     exact below_gbz (HB0.out.trans (HB3.out.mono HB0.out.size)) (Nat.le_refl _) hgV
   · rw [if_neg hd] at hpar
     have HD := Lib.hid (decide_eq_false hd)
     clear hd HP
     cases ho : valP (2 * T.length + 1) (kt T) with
     | none =>
      rw [ho] at hpar
      have HPE := Lib.hid hpar
      have HVN := Lib.hid ho
      clear ho hpar
      go_enter Tryz.func52, Tryz.ntmps52
      go_wp2_with (first
       | (go_at_call 110; refine htk.mono ?_; rintro e w2 ⟨tv, rfl, hrow, hb2⟩
          obtain ⟨p, c, rfl, hc, hcm, hTP⟩ := tokP_row hrow (Nat.le_refl _) HWK.out
          have hdp := deep_any hTP hc HKL.out
          rw [HD.out] at hdp
          have HTP := Lib.hid hTP
          have HC := Lib.hid (And.intro hc hcm)
          clear hTP hc hcm hrow htk)
       | (go_at_call 111; refine hdp.mono ?_; rintro e w3 ⟨rfl, hb3⟩
          have hbx : JBox w3 w.heap.size := (HZ.out.same (hb2.block _ HZ.out.lt)).same (hb3.block _ (Nat.lt_of_lt_of_le HZ.out.lt hb2.size))
          have HB := Lib.hid hbx
          have HB3 := Lib.hid (hb2.trans (hb3.mono hb2.size))
          have HVAL := Lib.hid (val_start (tw := false) (bad := false) (HTP.out) HC.out.1 HC.out.2 hb3)
          clear hbx hdp)
       | (go_at_call 112; refine (value_any (2 * T.length + 1) _ w3.heap.size (kt T) false HVAL.out HKW.out (by have := HKT.out; omega)).mono ?_
          rintro e w5 ⟨vk, vS, vp, vn, vc, vp', vn', vc', rfl, hvp⟩
          obtain ⟨K5, tw5, hrd⟩ := hvp.bad HVN.out
          obtain ⟨p5, cc5, q1, q2, q3, q4⟩ := hrd.below ((Below.refl w5.heap.size w5).alloc (Nat.le_refl _) (.cells #[.int .i64 vk, .string vS, .slice vp vn vc, .slice vp' vn' vc'] 25))
          obtain ⟨d0, d1, d2, df⟩ := cells3 q1
          have hb4 := HB.out
          have hbz : JBox w5 w.heap.size := (JBox.same (w := w3) HB.out (((Below.refl w3.heap.size w3).alloc (Nat.le_refl _) _).block _ HB.out.lt)).same (hvp.gb.block _ (by have := HB.out.lt; simp; omega) (fun e => by have := Option.some.inj e; have := HB.out.lt; omega))
          have hbz2 : JBox (w5.alloc (.cells #[.int .i64 vk, .string vS, .slice vp vn vc, .slice vp' vn' vc'] 25)) w.heap.size := hbz.same (((Below.refl w5.heap.size w5).alloc (Nat.le_refl _) _).block _ hbz.lt)
          have HBZ := Lib.hid hbz2
          have HVP := Lib.hid hvp
          clear hbz hbz2 q1 q2 q3 q4 hb4 df hvp)
       | (refine store_val rfl (.tmp 2) (.tmp 40) rfl w.heap.size rfl (.int .i64 0) (.string ⟨#[]⟩) (.slice none 0 0) (.slice none 0 0) rfl rfl HBZ.out (fun V hV hgV _ => ?_)))
      refine bodyPost_ret (ret_val2 Tryz.results52 rfl rfl hV) rfl (PP.zero HPE.out ?_ rfl)
      exact below_gbz (parse_below (HB0.out.trans (HB3.out.mono HB0.out.size)) HVP.out.gb) (Nat.le_refl _) hgV
     | some y =>
      obtain ⟨v, r⟩ := y
      cases r with
      | cons y1 t1 =>
       rw [ho] at hpar
       have HPE := Lib.hid hpar
       have HVN := Lib.hid ho
       clear ho hpar
       go_enter Tryz.func52, Tryz.ntmps52
       go_wp2_with (first
        | (go_at_call 110; refine htk.mono ?_; rintro e w2 ⟨tv, rfl, hrow, hb2⟩
           obtain ⟨p, c, rfl, hc, hcm, hTP⟩ := tokP_row hrow (Nat.le_refl _) HWK.out
           have hdp := deep_any hTP hc HKL.out
           rw [HD.out] at hdp
           have HTP := Lib.hid hTP
           have HC := Lib.hid (And.intro hc hcm)
           clear hTP hc hcm hrow htk)
        | (go_at_call 111; refine hdp.mono ?_; rintro e w3 ⟨rfl, hb3⟩
           have hbx : JBox w3 w.heap.size := (HZ.out.same (hb2.block _ HZ.out.lt)).same (hb3.block _ (Nat.lt_of_lt_of_le HZ.out.lt hb2.size))
           have HB := Lib.hid hbx
           have HB3 := Lib.hid (hb2.trans (hb3.mono hb2.size))
           have HVAL := Lib.hid (val_start (tw := false) (bad := false) (HTP.out) HC.out.1 HC.out.2 hb3)
           clear hbx hdp)
        | (go_at_call 112; refine (value_any (2 * T.length + 1) _ w3.heap.size (kt T) false HVAL.out HKW.out (by have := HKT.out; omega)).mono ?_
           rintro e w5 ⟨vk, vS, vp, vn, vc, vp', vn', vc', rfl, hvp⟩
           have hrd := (hvp.good _ _ HVN.out).1
           obtain ⟨p5, cc5, q1, q2, q3, q4⟩ := hrd.below ((Below.refl w5.heap.size w5).alloc (Nat.le_refl _) (.cells #[.int .i64 vk, .string vS, .slice vp vn vc, .slice vp' vn' vc'] 25))
           obtain ⟨d0, d1, d2, df⟩ := cells3 q1
           have hb4 := HB.out
           rw [List.length_cons] at d0
           have hbz : JBox w5 w.heap.size := (JBox.same (w := w3) HB.out (((Below.refl w3.heap.size w3).alloc (Nat.le_refl _) _).block _ HB.out.lt)).same (hvp.gb.block _ (by have := HB.out.lt; simp; omega) (fun e => by have := Option.some.inj e; have := HB.out.lt; omega))
           have hbz2 : JBox (w5.alloc (.cells #[.int .i64 vk, .string vS, .slice vp vn vc, .slice vp' vn' vc'] 25)) w.heap.size := hbz.same (((Below.refl w5.heap.size w5).alloc (Nat.le_refl _) _).block _ hbz.lt)
           have HBZ := Lib.hid hbz2
           have HVP := Lib.hid hvp
           clear hbz hbz2 q1 q2 q3 q4 hb4 df hvp)
        | (refine store_val rfl (.tmp 2) (.tmp 40) rfl w.heap.size rfl (.int .i64 0) (.string ⟨#[]⟩) (.slice none 0 0) (.slice none 0 0) rfl rfl HBZ.out (fun V hV hgV _ => ?_)))
       refine bodyPost_ret (ret_val2 Tryz.results52 rfl rfl hV) rfl (PP.zero HPE.out ?_ rfl)
       exact below_gbz (parse_below (HB0.out.trans (HB3.out.mono HB0.out.size)) HVP.out.gb) (Nat.le_refl _) hgV
      | nil =>
       rw [ho] at hpar
       dsimp only at hpar
       cases hdu : v.dup with
       | true =>
        rw [hdu, if_pos rfl] at hpar
        have HPE := Lib.hid hpar
        have HVN := Lib.hid ho
        have HDU := Lib.hid hdu
        clear ho hpar hdu
        go_enter Tryz.func52, Tryz.ntmps52
        go_wp2_with (first
         | (go_at_call 110; refine htk.mono ?_; rintro e w2 ⟨tv, rfl, hrow, hb2⟩
            obtain ⟨p, c, rfl, hc, hcm, hTP⟩ := tokP_row hrow (Nat.le_refl _) HWK.out
            have hdp := deep_any hTP hc HKL.out
            rw [HD.out] at hdp
            have HTP := Lib.hid hTP
            have HC := Lib.hid (And.intro hc hcm)
            clear hTP hc hcm hrow htk)
         | (go_at_call 111; refine hdp.mono ?_; rintro e w3 ⟨rfl, hb3⟩
            have hbx : JBox w3 w.heap.size := (HZ.out.same (hb2.block _ HZ.out.lt)).same (hb3.block _ (Nat.lt_of_lt_of_le HZ.out.lt hb2.size))
            have HB := Lib.hid hbx
            have HB3 := Lib.hid (hb2.trans (hb3.mono hb2.size))
            have HVAL := Lib.hid (val_start (tw := false) (bad := false) (HTP.out) HC.out.1 HC.out.2 hb3)
            clear hbx hdp)
         | (go_at_call 112; refine (value_any (2 * T.length + 1) _ w3.heap.size (kt T) false HVAL.out HKW.out (by have := HKT.out; omega)).mono ?_
            rintro e w5 ⟨vk, vS, vp, vn, vc, vp', vn', vc', rfl, hvp⟩
            have hrd := (hvp.good _ _ HVN.out).1; rw [HDU.out] at hrd
            obtain ⟨p5, cc5, q1, q2, q3, q4⟩ := hrd.below ((Below.refl w5.heap.size w5).alloc (Nat.le_refl _) (.cells #[.int .i64 vk, .string vS, .slice vp vn vc, .slice vp' vn' vc'] 25))
            obtain ⟨d0, d1, d2, df⟩ := cells3 q1
            have hb4 := HB.out
            have hbz : JBox w5 w.heap.size := (JBox.same (w := w3) HB.out (((Below.refl w3.heap.size w3).alloc (Nat.le_refl _) _).block _ HB.out.lt)).same (hvp.gb.block _ (by have := HB.out.lt; simp; omega) (fun e => by have := Option.some.inj e; have := HB.out.lt; omega))
            have hbz2 : JBox (w5.alloc (.cells #[.int .i64 vk, .string vS, .slice vp vn vc, .slice vp' vn' vc'] 25)) w.heap.size := hbz.same (((Below.refl w5.heap.size w5).alloc (Nat.le_refl _) _).block _ hbz.lt)
            have HBZ := Lib.hid hbz2
            have HVP := Lib.hid hvp
            clear hbz hbz2 q1 q2 q3 q4 hb4 df hvp)
         | (refine store_val rfl (.tmp 2) (.tmp 46) rfl w.heap.size rfl (.int .i64 0) (.string ⟨#[]⟩) (.slice none 0 0) (.slice none 0 0) rfl rfl HBZ.out (fun V hV hgV _ => ?_)))
        refine bodyPost_ret (ret_val2 Tryz.results52 rfl rfl hV) rfl (PP.zero HPE.out ?_ rfl)
        exact below_gbz (parse_below (HB0.out.trans (HB3.out.mono HB0.out.size)) HVP.out.gb) (Nat.le_refl _) hgV
       | false =>
        rw [hdu, if_neg (by decide)] at hpar
        have HPE := Lib.hid hpar
        have HVN := Lib.hid ho
        have HDU := Lib.hid hdu
        clear ho hpar hdu
        go_enter Tryz.func52, Tryz.ntmps52
        go_wp2_with (first
         | (go_at_call 110; refine htk.mono ?_; rintro e w2 ⟨tv, rfl, hrow, hb2⟩
            obtain ⟨p, c, rfl, hc, hcm, hTP⟩ := tokP_row hrow (Nat.le_refl _) HWK.out
            have hdp := deep_any hTP hc HKL.out
            rw [HD.out] at hdp
            have HTP := Lib.hid hTP
            have HC := Lib.hid (And.intro hc hcm)
            clear hTP hc hcm hrow htk)
         | (go_at_call 111; refine hdp.mono ?_; rintro e w3 ⟨rfl, hb3⟩
            have hbx : JBox w3 w.heap.size := (HZ.out.same (hb2.block _ HZ.out.lt)).same (hb3.block _ (Nat.lt_of_lt_of_le HZ.out.lt hb2.size))
            have HB := Lib.hid hbx
            have HB3 := Lib.hid (hb2.trans (hb3.mono hb2.size))
            have HVAL := Lib.hid (val_start (tw := false) (bad := false) (HTP.out) HC.out.1 HC.out.2 hb3)
            clear hbx hdp)
         | (go_at_call 112; refine (value_any (2 * T.length + 1) _ w3.heap.size (kt T) false HVAL.out HKW.out (by have := HKT.out; omega)).mono ?_
            rintro e w5 ⟨vk, vS, vp, vn, vc, vp', vn', vc', rfl, hvp⟩
            have hrd := (hvp.good _ _ HVN.out).1; rw [HDU.out] at hrd
            obtain ⟨p5, cc5, q1, q2, q3, q4⟩ := hrd.below ((Below.refl w5.heap.size w5).alloc (Nat.le_refl _) (.cells #[.int .i64 vk, .string vS, .slice vp vn vc, .slice vp' vn' vc'] 25))
            obtain ⟨d0, d1, d2, df⟩ := cells3 q1
            have hb4 := HB.out
            have hbz : JBox w5 w.heap.size := (JBox.same (w := w3) HB.out (((Below.refl w3.heap.size w3).alloc (Nat.le_refl _) _).block _ HB.out.lt)).same (hvp.gb.block _ (by have := HB.out.lt; simp; omega) (fun e => by have := Option.some.inj e; have := HB.out.lt; omega))
            have hbz2 : JBox (w5.alloc (.cells #[.int .i64 vk, .string vS, .slice vp vn vc, .slice vp' vn' vc'] 25)) w.heap.size := hbz.same (((Below.refl w5.heap.size w5).alloc (Nat.le_refl _) _).block _ hbz.lt)
            have HBZ := Lib.hid hbz2
            have HVP := Lib.hid hvp
            clear hbz hbz2 q1 q2 q3 q4 hb4 df hvp)
         | (refine store_val rfl (.tmp 2) (.tmp 47) rfl w.heap.size rfl (.int .i64 vk) (.string vS) (.slice vp vn vc) (.slice vp' vn' vc') rfl rfl HBZ.out (fun V hV hgV _ => ?_)))
        refine bodyPost_ret (ret_val2 Tryz.results52 rfl rfl hV) rfl ?_
        exact parse_good HPE.out HVN.out HVP.out (HB0.out.trans (HB3.out.mono HB0.out.size)) hgV
 · have hp : parV l = (jn 0, E) := by rw [HP.out, if_pos hE]
   have hEb : ((E : Int) != 0) = true := by simp; omega
   have HPE := Lib.hid hp
   clear hp hE hlx hpar
   go_enter Tryz.func52, Tryz.ntmps52
   go_wp2_with (first
    | (go_at_call 110; refine htk.mono ?_; rintro e w2 ⟨tv, rfl, hrow, hb2⟩
       have hbx : JBox w2 w.heap.size := HZ.out.same (hb2.block _ HZ.out.lt)
       have HB := Lib.hid hbx
       clear hbx)
    | (refine store_val rfl (.tmp 2) (.tmp 17) rfl w.heap.size rfl (.int .i64 0) (.string ⟨#[]⟩) (.slice none 0 0) (.slice none 0 0) rfl rfl HB.out (fun V hV hgV _ => ?_)))
   refine bodyPost_ret (ret_val2 Tryz.results52 rfl rfl hV) rfl (PP.zero HPE.out ?_ rfl)
   exact below_gbz (HB0.out.trans (hb2.mono HB0.out.size)) (Nat.le_refl _) hgV
end Go.Proofs.Jt
