/- Merged texts: Z8, Z9, Z10. -/
import Derived.Test.YtaiaiiepbpbmmaaGreatDoorZ7
import Derived.Test.YtaiaiiepbpbmmaaGreatDoorVL
import Derived.Test.YtaiaiiepbpbmmaaGreatDoorZX
import Derived.Test.YtaiaiiepbpbmmaaGreatDoorZ5
/- Z8: The reference's list. Printed by gen_z8.py. -/
namespace Go.Proofs.Jt
open Go.RowKit Go.Maps Go.Lib Go.Proofs.Utf Go.Proofs

theorem wpl_append_ownL {ops : Array Oper} {rest : List Oper} {w : World} {o : Oper} {a : Act} {Q : Exit → Act → World → Prop} (hgd : o.guard = none) (s x : Operand)
 (ho : o.op = .call { callee := .builtin .append, args := #[s, x], argTypes := #[23, 23] })
 (base : Nat) (v : Value) (n : Nat) (xs : List Value) (hs : a.eval s = v) (hown : w.ownsRow base 25 4 v n xs)
 (ad : Addr) (c : Nat) (news : List Value) (hx : a.eval x = .slice (some ad) 1 c) (hl : news.length = 4) (hnews : ∀ j u, news[j]? = some u → w.cell? (ad.add j) = some u) (h1 : ∀ u ∈ news, u.oneCell' = true)
 (h63 : n ≤ 33554432) (hbase : base ≤ w.heap.size)
 (h : ∀ v' w', w'.ownsRow base 25 4 v' (n + 1) (xs ++ news) → w.grownBy w' v.ownBlock → (v'.ownBlock = v.ownBlock ∨ v'.ownBlock = some w.heap.size) → wpList Tryz.prog ops Q rest (a.put o.dst v') w') : wpList Tryz.prog ops Q (o :: rest) a w := by
 obtain ⟨i45_, hi45, hz450, hz451, hz452⟩ := info_parts info45
 exact wpList_plain hgd fun _ hK => wp_append_own_at s x 23 ho base 25 i45_ _ 4 72 Tryz.underlying23 hi45 hz450 hz451 hz452 rfl (by decide) v n xs hs hown ad 1 c news hx hl hnews h1 (by unfold maxLen; omega) (by omega) hbase fun v' w' h2 h3 h4 => hK _ _ (h v' w' h2 h3 h4)
/-- one key more -/
theorem CV.addK {w w61 w7 : World} {B vb : Nat} {k : Int} {S : ByteArray} {ks : List (List UInt8)} {L : List IC} {kv iv kv2 : Value} {u : List UInt8} (h : CV w B vb k S ks L kv iv) (g : w.grownBy w61 none) (hg : w61.grownBy w7 kv.ownBlock) (hat : kv2.ownBlock = kv.ownBlock ∨ kv2.ownBlock = some w61.heap.size)
 (hr : w7.ownsRow B 9 1 kv2 (ks.length + 1) (strC ks ++ [.string ⟨u.toArray⟩])) : CV (w7.setCell ⟨vb, 2, none⟩ kv2) B vb k S (ks ++ [u]) L kv2 iv ∧ FrP (fun b => b = vb ∨ kv.ownBlock = some b) w (w7.setCell ⟨vb, 2, none⟩ kv2) := by
 have s61 := g.size
 have s7 := hg.size
 have hvl := (ltS h.hd)
 have F7 : FrP (fun b => kv.ownBlock = some b) w w7 := (FrP.of_none g).trans (FrP.of_row hg fun k hk => hk)
 have F9 : FrP (fun b => b = vb) w7 (w7.setCell ⟨vb, 2, none⟩ kv2) := FrP.of (gb_set w7 vb 2 kv2) rfl
 have FT : FrP (fun b => b = vb ∨ kv.ownBlock = some b) w (w7.setCell ⟨vb, 2, none⟩ kv2) := (F7.mono fun _ _ h => .inr h).trans (F9.mono fun _ _ h => .inl h)
 have hd7 := (F7.block vb hvl h.nk).trans h.hd
 have hk2b : ∀ b, b < w61.heap.size → some b ≠ kv.ownBlock → some b ≠ kv2.ownBlock := fun b hb hi e => by
  rcases hat with e2 | e2
  · exact hi (e.trans e2)
  · rw [e2] at e; have := Option.some.inj e; omega
 have hnk2 : kv2.ownBlock ≠ some vb := fun e => hk2b vb (by omega) (fun e => h.nk e.symm) e.symm
 refine ⟨⟨heap_setCell_self hd7 2 kv2, ?_, ?_, hnk2, h.ni, h.vB, fun d hd => ?_⟩, FT⟩
 · rw [strC_snoc, List.length_append]
   exact row_fr hr F9 fun b hb e => hnk2 (by rw [← e]; exact hb)
 · exact row_fr h.ri FT fun b hb e => by
    rcases e with rfl | e
    · exact h.ni hb
    · exact LV.apart h.rk h.ri b e hb
 · obtain ⟨h1, h2⟩ := h.ch d hd
   refine ⟨h1.keep FT.size (fun b hb hl => FT.block b hl (fun e => ?_)) fun b hb hl => ⟨hb.1, hb.2.1, hb.2.2.1, hk2b b (by omega) hb.2.2.2⟩, h2⟩
   rcases e with e | e
   · exact hb.2.1 e
   · exact hb.2.2.2 e.symm
/-- what is left is an end of what there was -/
theorem val_suf : ∀ n : Nat, (∀ (l : List KT) (v : JV) (r : List KT), valP n l = some (v, r) → r <:+ l) ∧
 (∀ (o : Bool) (l : List KT) (ks : List (List UInt8)) (it : List JV) (v : JV) (r : List KT), itmP n o l ks it = some (v, r) → r <:+ l)
 | 0 => ⟨fun l v r h => (by rw [valP] at h; cases h), fun o l ks it v r h => by rw [itmP] at h; cases h⟩
 | n + 1 => by
  obtain ⟨ih1, ih2⟩ := val_suf n
  refine ⟨fun l v r h => ?_, fun o l ks it v r h => ?_⟩
  · cases l with
    | nil => rw [valP] at h; cases h
    | cons t l =>
     obtain ⟨k, x⟩ := t
     rw [valP_cons] at h
     have hc : l <:+ (k, x) :: l := List.suffix_cons _ _
     have hend : ∀ (e : List UInt8) (w : JV) (b : Bool), (if l.head? = some (1, e) then some (w, l.tail) else itmP n b l [] []) = some (v, r) → r <:+ (k, x) :: l := fun e w b h => by
      split at h
      · cases h
        exact (List.tail_suffix l).trans hc
      · exact (ih2 b l [] [] v r h).trans hc
     split at h
     · split at h
       · cases h; exact hc
       · split at h
         · cases h; exact hc
         · split at h
           · cases h; exact hc
           · cases h
     · split at h
       · cases h; exact hc
       · split at h
         · cases h; exact hc
         · split at h
           · exact hend _ _ _ h
           · split at h
             · exact hend _ _ _ h
             · cases h
  · rw [itmP] at h
    split at h
    · cases h
    · rename_i key r2 hkey
      have hl2 : r2 <:+ l := by
       rcases keyP_some hkey with ⟨ho, e⟩ | ⟨ho, _, e⟩
       · rw [e]; exact (List.suffix_cons _ _).trans (List.suffix_cons _ _)
       · rw [e]; exact List.suffix_refl _
      split at h
      · cases h
      · rename_i w r3 hv
        have h1 := (ih1 r2 w r3 hv).trans hl2
        split at h
        · cases h
          exact (List.tail_suffix r3).trans h1
        · split at h
          · exact ((ih2 o r3.tail _ _ v r h).trans (List.tail_suffix r3)).trans h1
          · cases h
/-- what the reference's value and list leave -/
def RVP (w : World) (N : Nat) (o : Option (JV × List KT)) (e : Ending) (w' : World) : Prop :=
 Below w.heap.size w w' ∧ match o with
  | some (v, r) => ∃ kp kc ip ic, e = .returned (.tuple #[jval v kp kc ip ic, .int .i64 ((N - r.length : Nat) : Int)]) ∧ KP w' (w.heap.size ≤ ·) v kp kc ip ic ∧ v.str.length ≤ maxLen
  | none => ∃ k S p n c p' n' c', e = .returned (.tuple #[.agg #[.int .i64 k, .string S, .slice p n c, .slice p' n' c'], .int .i64 (-1)])
theorem RVP.bad {w V : World} {N : Nat} {T : Option (JV × List KT)} (hT : T = none) (hb : Below w.heap.size w V) {k : Int} {S : ByteArray} {p p' : Option Addr} {n c n' c' : Nat} : RVP w N T (.returned (.tuple #[.agg #[.int .i64 k, .string S, .slice p n c, .slice p' n' c'], .int .i64 (-1)])) V := by
 subst hT
 exact ⟨hb, k, S, p, n, c, p', n', c', rfl⟩
theorem RVP.out {w w' : World} {N nx : Nat} {v : JV} {r : List KT} {e : Ending} {Y : ByteArray} (h : RVP w N (some (v, r)) e w') (hn : N - r.length = nx) (hY : (⟨v.str.toArray⟩ : ByteArray) = Y) :
 Below w.heap.size w w' ∧ ∃ kp kc ip ic, e = .returned (.tuple #[.agg #[.int .i64 v.kind, .string Y, .slice kp v.keys.length kc, .slice ip v.items.length ic], .int .i64 (nx : Nat)]) ∧ KP w' (w.heap.size ≤ ·) v kp kc ip ic ∧ v.str.length ≤ maxLen := by
 subst hn hY
 exact h
/-- a value's contract, at a fuel -/
def ValR (n : Nat) : Prop := ∀ (w : World) (p : Option Addr) (c R : Nat) (K : List KT) (i : Nat), TokP w R p K → (∀ y ∈ K, 1 ≤ y.1) → R ≤ w.heap.size → K.length ≤ 33554432 → i ≤ K.length → 2 * (K.drop i).length + 1 ≤ n → Calls Tryz.prog 152 #[.slice p K.length c, .int .i64 i] w (RVP w K.length (valP n (K.drop i)))
theorem tk_head {K : List KT} {j : Nat} {B : ByteArray} {b : List UInt8} {r : Bool} (hB : B.data.toList = b) (h : decide ((K.drop j).head? = some (1, b)) = r) : tkIs K j B = r := by
 unfold tkIs
 rw [hB, ← h, List.head?_drop]
theorem CV.start {w : World} {vb : Nat} {k : Int} (h : w.heap[vb]? = some (.cells #[.int .i64 k, .string ⟨#[]⟩, .slice none 0 0, .slice none 0 0] 25 (0, 0))) : CV w vb vb k ⟨#[]⟩ [] [] (.slice none 0 0) (.slice none 0 0) :=
 ⟨h, ⟨rfl, .inl ⟨rfl, rfl⟩⟩, ⟨rfl, .inl ⟨rfl, rfl⟩⟩, (fun e => by cases e), (fun e => by cases e), Nat.le_refl _, (fun c h => by cases h)⟩
theorem CV.good {w wr V : World} {N vb : Nat} {k : Int} {ks : List (List UInt8)} {L : List IC} {kp ip : Option Addr} {kc ic kn im : Nat} {T : Option (JV × List KT)} {x : Int} {r : List KT} (h : CV wr vb vb k ⟨#[]⟩ ks L (.slice kp kn kc) (.slice ip im ic)) (hvb : w.heap.size < vb) (hb : Below w.heap.size w wr) (hg : wr.grownBy V (some w.heap.size))
 (hz : L.length ≤ maxLen ∧ ks.length ≤ maxLen ∧ ∀ s ∈ ks, s.length ≤ maxLen) (hT : T = some (.mk k [] ks (L.map (·.y)), r)) (hx : x = ((N - r.length : Nat) : Int)) :
 RVP w N T (.returned (.tuple #[.agg #[.int .i64 k, .string ⟨#[]⟩, .slice kp kn kc, .slice ip im ic], .int .i64 x])) V := by
 obtain ⟨kp', kc', ip', ic', e1, e2, hk⟩ := h.made (s := []) hz
 cases e1
 cases e2
 subst hT hx
 refine ⟨below_fr hb (Nat.le_refl _) (FrP.of (P := fun b => b = w.heap.size) hg rfl) (fun b hb => by omega), kp, kc, ip, ic, ?_, ?_, Nat.zero_le _⟩
 · unfold jval
   simp only [kind_mk, str_mk, keys_mk, items_mk, List.length_map]
 · exact (hk.fr (FrP.of (P := fun b => b = w.heap.size) hg rfl) fun b hb e => by omega).keep (Nat.le_refl _) (fun _ _ _ => rfl) fun b hb _ => by omega
theorem km_snoc {ks : List (List UInt8)} {x : List UInt8} {n : Nat} (h : ∀ s ∈ ks, s.length ≤ n) (hx : x.length ≤ n) : ∀ s ∈ ks ++ [x], s.length ≤ n := fun s hs => by
 rcases List.mem_append.1 hs with hs | hs
 · exact h s hs
 · rw [List.mem_singleton.1 hs]; exact hx
theorem keyQ {x : List UInt8} {r : List KT} (h : ¬ r.head? = some (1, [58])) : keyP true ((4, x) :: r) = none := by
 unfold keyP
 rw [if_pos rfl]
 split
 · rename_i key r2 he
   cases he
   exact absurd rfl h
 · rfl
theorem keyK {k : Nat} {x : List UInt8} {r : List KT} (h : ¬ k = 4) : keyP true ((k, x) :: r) = none := by
 unfold keyP
 rw [if_pos rfl]
 split
 · rename_i key r2 he
   cases he
   exact absurd rfl h
 · rfl
set_option maxRecDepth 100000 in
set_option maxHeartbeats 8000000 in
theorem rlist_arr {n : Nat} (IH : ∀ m, m + 1 ≤ n → ValR m) {w : World} {p : Option Addr} {c R : Nat} {K : List KT} {i : Nat} (h : TokP w R p K) (hK1 : ∀ y ∈ K, 1 ≤ y.1) (hR : R ≤ w.heap.size) (hl : K.length ≤ 33554432) (hi : i ≤ K.length) (hn : 2 * (K.drop i).length + 2 ≤ n) :
 Calls Tryz.prog 202 #[.slice p K.length c, .int .i64 i, .int .i64 5, .string ⟨#[93]⟩] w (RVP w K.length (lisP n false (K.drop i))) := by
 obtain ⟨W1, hW1⟩ : ∃ W, w.alloc (.cells #[.int .i64 0, .string ⟨#[]⟩, .slice none 0 0, .slice none 0 0] 25) = W := ⟨_, rfl⟩
 obtain ⟨W, hW⟩ : ∃ W, W1.alloc (.cells #[.int .i64 5, .string ⟨#[]⟩, .slice none 0 0, .slice none 0 0] 25) = W := ⟨_, rfl⟩
 have bW1 := alloc_b hW1
 have bW := Below.on bW1 (alloc_b hW)
 have hz1 : W1.heap.size = w.heap.size + 1 := by rw [← hW1]; simp
 have hC0 : CV W (w.heap.size + 1) (w.heap.size + 1) 5 ⟨#[]⟩ [] [] (.slice none 0 0) (.slice none 0 0) := CV.start (by rw [← hz1, ← hW]; exact alloc_at W1 _)
 have hJ0 : JBox W w.heap.size := by
  have h1 : JBox W1 w.heap.size := by rw [← hW1]; exact JBox.alloc _ _ _ _ _
  exact h1.same ((alloc_b hW).block _ h1.lt)
 have HT : Hid (∀ w', Below w.heap.size w w' → TokP w' R p K) := Lib.hid fun w' hb => h.kept fun b hb2 hl => hb.block b hl
 have HIS : Hid (∀ w', Below w.heap.size w w' → ∀ (j : Nat) (B : ByteArray), j ≤ 200000000 → Calls Tryz.prog 201 #[.slice p K.length c, .int .i64 j, .string B] w' fun e w'' => e = .returned (.bool (tkIs K j B)) ∧ w'' = w') := Lib.hid fun w' hb j B hj => rtis_any h (by omega) j hj B _ rfl w' hb
 have HR := Lib.hid hR
 have HK1 := Lib.hid hK1
 have HKL := Lib.hid hl
 have HN := Lib.hid hn
 have hq := HIS.out W bW i
 obtain ⟨c0, c1, c2, c3⟩ := cells4 hC0.hd
 obtain ⟨T, hT⟩ : ∃ T, itmP n false (K.drop i) [] [] = T := ⟨_, rfl⟩
 have HT0 := Lib.hid hT
 have HBW0 := Lib.hid bW
 have HC0 := Lib.hid hC0
 have HJ0 := Lib.hid hJ0
 have hlis : lisP n false (K.drop i) = if (K.drop i).head? = some (1, endK false) then some (jn 5, (K.drop i).tail) else T := by rw [← hT]; rfl
 rw [hlis]
 subst hW1
 have HW := Lib.hid hW
 clear h hK1 hR hn hT bW1 bW hz1 hC0 hJ0 hlis hW
 by_cases hd : (K.drop i).head? = some (1, endK false)
 · rw [if_pos hd]
   have q1 : tkIs K i ⟨#[93]⟩ = true := tk_head (b := endK false) rfl (decide_eq_true hd)
   have hil : i < K.length := by
    rcases Nat.lt_or_ge i K.length with h | h
    · exact h
    · rw [List.drop_eq_nil_of_le h] at hd; cases hd
   have HJB := HJ0
   clear hd
   go_enter Tryz.func202, Tryz.ntmps202
   go_upto_region 2 with fail
   try rw [HW.out]
   go_wp2_with (first
    | (go_at_call 201; refine (hq _ (by omega)).mono ?_; rintro e1 w9 ⟨rfl, hw⟩; subst hw; rw [q1])
    | (refine store_val rfl (.tmp 8) (.tmp 19) rfl w.heap.size rfl (.int .i64 5) (.string ⟨#[]⟩) (.slice none 0 0) (.slice none 0 0) rfl rfl HJB.out (fun V hV hgV _ => ?_)))
   refine bodyPost_ret (ret_val2 Tryz.results202 rfl rfl hV) rfl ?_
   exact CV.good HC0.out (by omega) HBW0.out hgV ⟨Nat.zero_le _, Nat.zero_le _, fun s hs => by cases hs⟩ rfl (by rw [List.length_tail, List.length_drop]; omega)
 · rw [if_neg hd]
   have q1 : tkIs K i ⟨#[93]⟩ = false := tk_head (b := endK false) rfl (decide_eq_false hd)
   clear hd
   go_enter Tryz.func202, Tryz.ntmps202
   go_upto_region 2 with fail
   try rw [HW.out]
   go_wp2_with (first
    | (go_at_call 201; refine (hq _ (by omega)).mono ?_; rintro e1 w9 ⟨rfl, hw⟩; subst hw; rw [q1]))
   go_loopw [1] (fun iv wr => ∃ (m j : Nat) (ks : List (List UInt8)) (its : List JV) (L : List IC) (kv ivv : Value), iv = .int .i64 j ∧ j ≤ K.length ∧ m + 1 ≤ n ∧ 2 * (K.drop j).length + 2 ≤ m + 1 ∧ ks.length = its.length ∧ itmP (m + 1) false (K.drop j) ks its = T ∧ CV wr (w.heap.size + 1) (w.heap.size + 1) 5 ⟨#[]⟩ [] L kv ivv ∧ L.map (·.y) = its ∧ L.length ≤ j ∧ (∀ s ∈ ks, s.length ≤ 16777216) ∧ Below w.heap.size w wr ∧ JBox wr w.heap.size) (fun iv _ => K.length - (RowKit.intOf iv).toNat)
   case atStart => exact ⟨n - 1, i, [], [], [], _, _, rfl, hi, by have := HN.out; omega, by have := HN.out; omega, rfl, by have := HN.out; rw [show n - 1 + 1 = n by omega]; exact HT0.out, HC0.out, rfl, Nat.zero_le _, (fun s hs => by cases hs), HBW0.out, HJ0.out⟩
   case round =>
    clear c0 c1 c2 c3 hq q1
    obtain ⟨m, j, ks, its, L, kv, ivv, rfl, hj, hm, hfu, hks, hT1, hC, hits, hLj, hkm, hB, hJ⟩ := hrel
    have HITS := Lib.hid hits
    have HLL := Lib.hid hLj
    have HKS := Lib.hid hks
    have HKM := Lib.hid hkm
    have hT2 : (match valP m (K.drop j) with
     | none => none
     | some (v, r3) =>
      if r3.head? = some (1, endK false) then some (lv false (ks ++ [[]]) (its ++ [v]), r3.tail)
      else if r3.head? = some (1, [44]) then itmP m false r3.tail (ks ++ [[]]) (its ++ [v])
      else none) = T := by rw [← hT1, itmP_succ]; rfl
    clear hT1 hits hLj hks hkm
    have hBw := hB
    have hJw := hJ
    have hjx := hj
    have hfu2 : 2 * (K.drop j).length + 1 ≤ m := by omega
    have hval := IH m hm wr p c R K (j) (HT.out wr hBw) HK1.out (Nat.le_trans HR.out hBw.size) HKL.out hjx hfu2

    have HBW := Lib.hid hBw
    have HC := Lib.hid hC
    have HJ := Lib.hid hJw
    obtain ⟨pk, ck, epk⟩ := row_form hC.rk
    obtain ⟨pi, ci, epi⟩ := row_form hC.ri
    obtain rfl := epk
    obtain rfl := epi
    have HT2 := Lib.hid hT2
    cases hv : valP m (K.drop (j)) with
    | none =>
     rw [hv] at hval
     have hTn : T = none := by rw [← HT2.out, hv]
     have HTN := Lib.hid hTn
     clear hTn hv hC hJw hBw 
     go_wp2_with (first
      | (go_at_call 152; refine hval.mono ?_; rintro e w5 ⟨hb5, k1, S1, p1, n1, c1, p1', n1', c1', rfl⟩
         obtain ⟨V5, hV5⟩ : ∃ V, w5.alloc (.cells #[.int .i64 k1, .string S1, .slice p1 n1 c1, .slice p1' n1' c1'] 25) = V := ⟨_, rfl⟩
         have b5 := Below.on hb5 (alloc_b hV5)
         obtain ⟨o0, o1, o2, o3⟩ := cells4 (HC.out.below b5).hd
         have HJB := Lib.hid (HJ.out.same (b5.block _ HJ.out.lt)))
      | (refine store_val rfl (.tmp 8) (.tmp 64) rfl w.heap.size rfl (.int .i64 5) (.string ⟨#[]⟩) (.slice pk ([] : List (List UInt8)).length ck) (.slice pi L.length ci) rfl rfl HJB.out (fun V hV hgV _ => ?_)))
     refine bodyPost_ret (ret_val2 Tryz.results202 rfl rfl hV) rfl ?_
     exact RVP.bad HTN.out (below_fr (Below.on HBW.out b5) (Nat.le_refl _) (FrP.of (P := fun b => b = w.heap.size) hgV rfl) (fun b hb => by omega))
    | some q =>
     obtain ⟨v, r3⟩ := q
     rw [hv] at hval
     have hsuf := (val_suf m).1 _ _ _ hv
     have hln := (val_len m).1 _ _ _ hv
     obtain ⟨nx, hnx⟩ : ∃ nx, K.length - r3.length = nx := ⟨_, rfl⟩
     have hd3 : K.drop nx = r3 := by rw [← hnx]; exact (List.suffix_iff_eq_drop.1 (hsuf.trans (List.drop_suffix _ _))).symm
     have hl3 : r3.length + (j) < K.length := by rw [List.length_drop] at hln; omega
     have hn0 : ¬ ((nx : Nat) : Int) < 0 := by omega
     have hnb : nx ≤ 33554432 := by have := HKL.out; omega
     have hT3 : T = if r3.head? = some (1, endK false) then some (lv false (ks ++ [[]]) (its ++ [v]), r3.tail) else if r3.head? = some (1, [44]) then itmP m false r3.tail (ks ++ [[]]) (its ++ [v]) else none := by
      rw [← HT2.out, hv]
     obtain ⟨Y, hY⟩ : ∃ Y : ByteArray, (⟨v.str.toArray⟩ : ByteArray) = Y := ⟨_, rfl⟩
     have HY := Lib.hid hY
     have HT3 := Lib.hid hT3
     have HD3 := Lib.hid hd3
     have HL3 := Lib.hid hl3
     have HNX := Lib.hid hnx
     replace hval := hval.mono (fun e w' h => RVP.out h hnx hY)
     clear hv hsuf hln hd3 hT3 hY hC hJw hBw  hnx
     go_upto_region 12 with (first
      | (go_at_call 152; refine hval.mono ?_; rintro e w5 ⟨hb5, kp, kc, ip, ic, rfl, hkp, hvl⟩
         obtain ⟨V5, hV5⟩ : ∃ V, w5.alloc (.cells #[.int .i64 v.kind, .string Y, .slice kp v.keys.length kc, .slice ip v.items.length ic] 25) = V := ⟨_, rfl⟩
         have b5 := Below.on hb5 (alloc_b hV5)))
     have hC5 := HC.out.below b5
     obtain ⟨o0, o1, o2, o3⟩ := cells4 hC5.hd
     obtain ⟨x0, x1, x2, x3⟩ := cells4 (show V5.heap[w5.heap.size]? = some (.cells #[.int .i64 v.kind, .string Y, .slice kp v.keys.length kc, .slice ip v.items.length ic] 25 (0, 0)) by rw [← hV5]; exact alloc_at w5 _)
     have hLL : L.length ≤ 33554432 := by have := HLL.out; have := HL3.out; have := HKL.out; omega
     go_upto_region 13 with (first
      | (at_builtin; refine wpl_append_ownL rfl (.tmp 66) (.tmp 68) rfl (w.heap.size + 1) _ _ _ rfl (hC5.ri.alloc (.cells #[.int .i64 v.kind, .string Y, .slice kp v.keys.length kc, .slice ip v.items.length ic] 25)) ⟨V5.heap.size, 0, none⟩ 1 [.int .i64 v.kind, .string Y, .slice kp v.keys.length kc, .slice ip v.items.length ic] rfl rfl (new_cells _ _ _) (fun u hu => by simp only [List.mem_cons, List.not_mem_nil, or_false] at hu; rcases hu with rfl | rfl | rfl | rfl <;> rfl) hLL (by have := (ltS hC5.hd); simp; omega) ?_
         intro iv2 w7 hi2 hgi hat2
         obtain ⟨pi2, ci2, rfl⟩ := row_form hi2
         obtain ⟨hC8, F8⟩ := CV.add (c := ⟨v, kp, kc, ip, ic⟩) HC.out (World.grownBy.refl wr none) (gb_below' hb5) (gb_below' ((alloc_b hV5).trans (((Below.refl V5.heap.size V5).alloc (Nat.le_refl _) (.cells #[.int .i64 v.kind, .string Y, .slice kp v.keys.length kc, .slice ip v.items.length ic] 25)).mono (alloc_b hV5).size))) hgi hat2 (by show w7.ownsRow _ _ _ _ _ (rowC L ++ [_, _, _, _]); rw [HY.out]; exact hi2) ⟨hkp, hvl⟩
         have F7 : FrP (fun b => (Value.slice pi L.length ci).ownBlock = some b) V5 w7 := (FrP.of_none (World.grownBy_alloc V5 (.cells #[.int .i64 v.kind, .string Y, .slice kp v.keys.length kc, .slice ip v.items.length ic] 25) none)).trans (FrP.of_row hgi fun k hk => hk)
         have hd7 := (F7.block (w.heap.size + 1) (ltS hC5.hd) hC5.ni).trans hC5.hd
         have y3 := (cells4 hd7).2.2.2
         have yf : w7.frozen? ⟨w.heap.size + 1, 3, none⟩ = false := by simp [World.frozen?, hd7]
         clear hi2 hgi hat2 F7 hd7))
     obtain ⟨w8, hw8⟩ : ∃ w8, w7.setCell ⟨w.heap.size + 1, 3, none⟩ (.slice pi2 (L.length + 1) ci2) = w8 := ⟨_, rfl⟩
     rw [hw8] at hC8 F8 ⊢
     have hB8 : Below w.heap.size w w8 := below_fr HBW.out (Nat.le_refl _) F8 (fun b hb => by
      rcases hb with rfl | hb
      · omega
      · have := (row_lt HC.out.ri hb).1; omega)
     have HC8 := Lib.hid hC8
     obtain ⟨z0, z1, z2, z3⟩ := cells4 hC8.hd
     have HJB := Lib.hid (HJ.out.same (F8.block _ HJ.out.lt (fun e => by
      rcases e with e | e
      · omega
      · have := (row_lt HC.out.ri e).1; omega)))
     have hq := HIS.out w8 hB8 nx
     have HB8 := Lib.hid hB8
     have HZ8 : Hid ((L ++ [(⟨v, kp, kc, ip, ic⟩ : IC)]).length ≤ maxLen) := Lib.hid (by rw [List.length_append]; unfold maxLen; simp; omega)
     clear hw8 hC8 F8 hB8 o0 o1 o2 o3 x0 x1 x2 x3 hC5 hV5 b5 y3 yf hkp hvl hval
     by_cases he : r3.head? = some (1, endK false)
     · have q1 : tkIs K nx ⟨#[93]⟩ = true := tk_head (b := endK false) rfl (by rw [HD3.out]; exact decide_eq_true he)
       have hTg : T = some (lv false (ks ++ [[]]) (its ++ [v]), r3.tail) := by rw [HT3.out, if_pos he]
       have HTG := Lib.hid hTg
       have hrl : 1 ≤ r3.length := by cases r3 with | nil => exact absurd he (by simp) | cons y t => simp
       clear he hTg
       go_wp2_with (first
        | (go_at_call 201; refine (hq _ (by have := HKL.out; have := HNX.out; omega)).mono ?_; rintro e1 w9 ⟨rfl, hw⟩; subst hw; rw [q1])
        | (refine store_val rfl (.tmp 8) (.tmp 75) rfl w.heap.size rfl (.int .i64 5) (.string ⟨#[]⟩) (.slice pk ([] : List (List UInt8)).length ck) (.slice pi2 (L.length + 1) ci2) rfl rfl HJB.out (fun V hV hgV _ => ?_)))
       refine bodyPost_ret (ret_val2 Tryz.results202 rfl rfl hV) rfl ?_
       exact CV.good HC8.out (by omega) HB8.out hgV ⟨HZ8.out, Nat.zero_le _, fun s hs => by cases hs⟩ (by rw [HTG.out]; unfold lv; rw [List.map_append, HITS.out]; rfl) (by have := HNX.out; have := HL3.out; rw [List.length_tail]; omega)
     · have q1 : tkIs K nx ⟨#[93]⟩ = false := tk_head (b := endK false) rfl (by rw [HD3.out]; exact decide_eq_false he)
       by_cases hcm : r3.head? = some (1, [44])
       · have q2 : tkIs K nx ⟨#[44]⟩ = true := tk_head (b := [44]) rfl (by rw [HD3.out]; exact decide_eq_true hcm)
         have hTg : itmP m false r3.tail (ks ++ [[]]) (its ++ [v]) = T := by rw [HT3.out, if_neg he, if_pos hcm]
         have HTG := Lib.hid hTg
         have hrl : 1 ≤ r3.length := by cases r3 with | nil => exact absurd hcm (by simp) | cons y t => simp
         clear he hTg hcm
         go_wp2_with (first
          | (go_at_call 201; refine (hq _ (by have := HKL.out; have := HNX.out; omega)).mono ?_; rintro e1 w9 ⟨rfl, hw⟩; subst hw; first | rw [q1] | rw [q2]))
         go_roundw
         case rel =>
          have h3 := HL3.out
          have h4 := HNX.out
          have h5 : (K.drop (j)).length = K.length - (j) := List.length_drop
          refine ⟨m - 1, nx + 1, (ks ++ [[]]), its ++ [v], _, _, _, by go_num, by omega, by omega, ?_, ?_, ?_, HC8.out, by rw [List.map_append, HITS.out]; rfl, ?_, km_snoc HKM.out (Nat.zero_le _), HB8.out, HJB.out⟩
          · rw [List.length_drop]; omega
          · rw [List.length_append, List.length_append, HKS.out]; rfl
          · rw [← List.tail_drop, HD3.out, show m - 1 + 1 = m by omega]; exact HTG.out
          · rw [List.length_append]; have := HLL.out; simp; omega
         case measure =>
          have h3 := HL3.out
          have h4 := HNX.out
          simp [RowKit.intOf]; omega
       · have q2 : tkIs K nx ⟨#[44]⟩ = false := tk_head (b := [44]) rfl (by rw [HD3.out]; exact decide_eq_false hcm)
         have hTg : T = none := by rw [HT3.out, if_neg he, if_neg hcm]
         have HTG := Lib.hid hTg
         clear he hTg hcm
         go_wp2_with (first
          | (go_at_call 201; refine (hq _ (by have := HKL.out; have := HNX.out; omega)).mono ?_; rintro e1 w9 ⟨rfl, hw⟩; subst hw; first | rw [q1] | rw [q2])
          | (refine store_val rfl (.tmp 8) (.tmp 82) rfl w.heap.size rfl (.int .i64 5) (.string ⟨#[]⟩) (.slice pk ([] : List (List UInt8)).length ck) (.slice pi2 (L.length + 1) ci2) rfl rfl HJB.out (fun V hV hgV _ => ?_)))
         refine bodyPost_ret (ret_val2 Tryz.results202 rfl rfl hV) rfl ?_
         exact RVP.bad HTG.out (below_fr HB8.out (Nat.le_refl _) (FrP.of (P := fun b => b = w.heap.size) hgV rfl) (fun b hb => by omega))
set_option maxRecDepth 100000 in
set_option maxHeartbeats 8000000 in
theorem rlist_obj {n : Nat} (IH : ∀ m, m + 1 ≤ n → ValR m) {w : World} {p : Option Addr} {c R : Nat} {K : List KT} {i : Nat} (h : TokP w R p K) (hK1 : ∀ y ∈ K, 1 ≤ y.1) (hR : R ≤ w.heap.size) (hl : K.length ≤ 33554432) (hi : i ≤ K.length) (hn : 2 * (K.drop i).length + 2 ≤ n) :
 Calls Tryz.prog 202 #[.slice p K.length c, .int .i64 i, .int .i64 6, .string ⟨#[125]⟩] w (RVP w K.length (lisP n true (K.drop i))) := by
 obtain ⟨W1, hW1⟩ : ∃ W, w.alloc (.cells #[.int .i64 0, .string ⟨#[]⟩, .slice none 0 0, .slice none 0 0] 25) = W := ⟨_, rfl⟩
 obtain ⟨W, hW⟩ : ∃ W, W1.alloc (.cells #[.int .i64 6, .string ⟨#[]⟩, .slice none 0 0, .slice none 0 0] 25) = W := ⟨_, rfl⟩
 have bW1 := alloc_b hW1
 have bW := Below.on bW1 (alloc_b hW)
 have hz1 : W1.heap.size = w.heap.size + 1 := by rw [← hW1]; simp
 have hC0 : CV W (w.heap.size + 1) (w.heap.size + 1) 6 ⟨#[]⟩ [] [] (.slice none 0 0) (.slice none 0 0) := CV.start (by rw [← hz1, ← hW]; exact alloc_at W1 _)
 have hJ0 : JBox W w.heap.size := by
  have h1 : JBox W1 w.heap.size := by rw [← hW1]; exact JBox.alloc _ _ _ _ _
  exact h1.same ((alloc_b hW).block _ h1.lt)
 have HT : Hid (∀ w', Below w.heap.size w w' → TokP w' R p K) := Lib.hid fun w' hb => h.kept fun b hb2 hl => hb.block b hl
 have HIS : Hid (∀ w', Below w.heap.size w w' → ∀ (j : Nat) (B : ByteArray), j ≤ 200000000 → Calls Tryz.prog 201 #[.slice p K.length c, .int .i64 j, .string B] w' fun e w'' => e = .returned (.bool (tkIs K j B)) ∧ w'' = w') := Lib.hid fun w' hb j B hj => rtis_any h (by omega) j hj B _ rfl w' hb
 have HR := Lib.hid hR
 have HK1 := Lib.hid hK1
 have HKL := Lib.hid hl
 have HN := Lib.hid hn
 have hq := HIS.out W bW i
 obtain ⟨c0, c1, c2, c3⟩ := cells4 hC0.hd
 obtain ⟨T, hT⟩ : ∃ T, itmP n true (K.drop i) [] [] = T := ⟨_, rfl⟩
 have HT0 := Lib.hid hT
 have HBW0 := Lib.hid bW
 have HC0 := Lib.hid hC0
 have HJ0 := Lib.hid hJ0
 have hlis : lisP n true (K.drop i) = if (K.drop i).head? = some (1, endK true) then some (jn 6, (K.drop i).tail) else T := by rw [← hT]; rfl
 rw [hlis]
 subst hW1
 have HW := Lib.hid hW
 clear h hK1 hR hn hT bW1 bW hz1 hC0 hJ0 hlis hW
 by_cases hd : (K.drop i).head? = some (1, endK true)
 · rw [if_pos hd]
   have q1 : tkIs K i ⟨#[125]⟩ = true := tk_head (b := endK true) rfl (decide_eq_true hd)
   have hil : i < K.length := by
    rcases Nat.lt_or_ge i K.length with h | h
    · exact h
    · rw [List.drop_eq_nil_of_le h] at hd; cases hd
   have HJB := HJ0
   clear hd
   go_enter Tryz.func202, Tryz.ntmps202
   go_upto_region 2 with fail
   try rw [HW.out]
   go_wp2_with (first
    | (go_at_call 201; refine (hq _ (by omega)).mono ?_; rintro e1 w9 ⟨rfl, hw⟩; subst hw; rw [q1])
    | (refine store_val rfl (.tmp 8) (.tmp 19) rfl w.heap.size rfl (.int .i64 6) (.string ⟨#[]⟩) (.slice none 0 0) (.slice none 0 0) rfl rfl HJB.out (fun V hV hgV _ => ?_)))
   refine bodyPost_ret (ret_val2 Tryz.results202 rfl rfl hV) rfl ?_
   exact CV.good HC0.out (by omega) HBW0.out hgV ⟨Nat.zero_le _, Nat.zero_le _, fun s hs => by cases hs⟩ rfl (by rw [List.length_tail, List.length_drop]; omega)
 · rw [if_neg hd]
   have q1 : tkIs K i ⟨#[125]⟩ = false := tk_head (b := endK true) rfl (decide_eq_false hd)
   clear hd
   go_enter Tryz.func202, Tryz.ntmps202
   go_upto_region 2 with fail
   try rw [HW.out]
   go_wp2_with (first
    | (go_at_call 201; refine (hq _ (by omega)).mono ?_; rintro e1 w9 ⟨rfl, hw⟩; subst hw; rw [q1]))
   go_loopw [1] (fun iv wr => ∃ (m j : Nat) (ks : List (List UInt8)) (its : List JV) (L : List IC) (kv ivv : Value), iv = .int .i64 j ∧ j ≤ K.length ∧ m + 1 ≤ n ∧ 2 * (K.drop j).length + 2 ≤ m + 1 ∧ ks.length = its.length ∧ itmP (m + 1) true (K.drop j) ks its = T ∧ CV wr (w.heap.size + 1) (w.heap.size + 1) 6 ⟨#[]⟩ ks L kv ivv ∧ L.map (·.y) = its ∧ L.length ≤ j ∧ (∀ s ∈ ks, s.length ≤ 16777216) ∧ Below w.heap.size w wr ∧ JBox wr w.heap.size) (fun iv _ => K.length - (RowKit.intOf iv).toNat)
   case atStart => exact ⟨n - 1, i, [], [], [], _, _, rfl, hi, by have := HN.out; omega, by have := HN.out; omega, rfl, by have := HN.out; rw [show n - 1 + 1 = n by omega]; exact HT0.out, HC0.out, rfl, Nat.zero_le _, (fun s hs => by cases hs), HBW0.out, HJ0.out⟩
   case round =>
    clear c0 c1 c2 c3 hq q1
    obtain ⟨m, j, ks, its, L, kv, ivv, rfl, hj, hm, hfu, hks, hT1, hC, hits, hLj, hkm, hB, hJ⟩ := hrel
    have HITS := Lib.hid hits
    have HLL := Lib.hid hLj
    have HKS := Lib.hid hks
    have HKM := Lib.hid hkm
    clear hits hLj hks
    by_cases hjn : (j : Int) < (K.length : Int)
    · obtain ⟨y, hy⟩ : ∃ y, K[j]? = some y := ⟨_, List.getElem?_eq_getElem (by omega)⟩
      obtain ⟨k, x⟩ := y
      obtain ⟨g, o, rfl, hgR, k0, k1, hxl, hk4, -, -⟩ := HT.out wr hB j k x hy
      have hdr := drop_cons hy
      obtain ⟨U, hU⟩ : ∃ U : ByteArray, (⟨x.toArray⟩ : ByteArray) = U := ⟨_, rfl⟩
      rw [hU] at k1
      by_cases hk : k = 4
      · subst hk
        have hq := HIS.out wr hB (j + 1)
        rw [show ((j + 1 : Nat) : Int) = (j : Int) + 1 by omega] at hq
        by_cases hcol : (K.drop (j + 1)).head? = some (1, [58])
        · have q2 : tkIs K (j + 1) ⟨#[58]⟩ = true := tk_head (b := [58]) rfl (decide_eq_true hcol)
          have hdr2 : K.drop (j + 1) = (1, [58]) :: K.drop (j + 2) := by
           have : K.drop (j + 2) = (K.drop (j + 1)).tail := (List.tail_drop ..).symm
           rw [this]
           cases hh : K.drop (j + 1) with
           | nil => rw [hh] at hcol; cases hcol
           | cons y t => rw [hh] at hcol; cases hcol; rfl
          have hj2 : j + 2 ≤ K.length := by
           have h1 := congrArg List.length hdr2
           simp only [List.length_drop, List.length_cons] at h1
           omega
          have hT2 : (match valP m (K.drop (j + 2)) with
           | none => none
           | some (v, r3) =>
            if r3.head? = some (1, endK true) then some (lv true (ks ++ [x]) (its ++ [v]), r3.tail)
            else if r3.head? = some (1, [44]) then itmP m true r3.tail (ks ++ [x]) (its ++ [v])
            else none) = T := by rw [← hT1, itmP_succ, hdr, hdr2]; rfl
          have hjx := hj2
          have hfu2 : 2 * (K.drop (j + 2)).length + 1 ≤ m := by
           rw [List.length_drop] at hfu ⊢
           omega
          have HKM2 := Lib.hid (km_snoc HKM.out hxl)
          have HCV := Lib.hid hC
          obtain ⟨pk0, ck0, epk⟩ := row_form hC.rk
          obtain ⟨pi0, ci0, epi⟩ := row_form hC.ri
          obtain rfl := epk
          obtain rfl := epi
          have HKS2 : Hid ((ks ++ [x]).length ≤ 33554432) := Lib.hid (by rw [List.length_append, HKS.out, ← HITS.out, List.length_map]; have := HLL.out; simp; omega)
          have hksl : ks.length ≤ 33554432 := by have := HKS2.out; rw [List.length_append] at this; omega
          have hvlt := (ltS hC.hd)
          have hgl : g < w.heap.size := Nat.lt_of_lt_of_le hgR HR.out
          have HS7 : Hid (∀ wx, FrP (fun b => (Value.slice pk0 ks.length ck0).ownBlock = some b) wr wx → wx.cell? ⟨w.heap.size + 1, 2, none⟩ = some (.slice pk0 ks.length ck0) ∧ wx.frozen? ⟨w.heap.size + 1, 2, none⟩ = false ∧ wx.cell? ⟨g, o + j * 4 + 1, none⟩ = some (.string U)) := Lib.hid fun wx F => by
           have e1 := (F.block (w.heap.size + 1) hvlt HCV.out.nk).trans HCV.out.hd
           have e2 := F.block g (World.block_lt_of_cell? _ _ k1) (fun h => by have := (row_lt HCV.out.rk h).1; omega)
           exact ⟨by simp [World.cell?, e1], by simp [World.frozen?, e1], (World.cell?_of_block e2).trans k1⟩
          have hrk := hC.rk.drew
          obtain ⟨i9_, hi9, hz90, hz91, hz92⟩ := info_parts info9
          have HB := Lib.hid hB
          have HJ1 := Lib.hid hJ
          have HU := Lib.hid hU
          have HT2a := Lib.hid hT2
          clear hT1 hT2 hC hB hJ hdr hdr2 hcol hy hU
          go_upto_region 7 with (first | (go_at_call 201; refine (hq _ (by omega)).mono ?_; rintro e1 w9 ⟨rfl, hw⟩; rw [hw, q2]; clear hw))
          refine wp_region_late (S := fun v => v.cell? ⟨w.heap.size + 1, 2, none⟩ = some (.slice pk0 ks.length ck0) ∧ v.frozen? ⟨w.heap.size + 1, 2, none⟩ = false ∧ v.cell? ⟨g, o + j * 4 + 1, none⟩ = some (.string U)) 10 (by kernel_rfl) (HS7.out _ (FrP.refl _ _).drew) (fun hHeld => ?_)
          refine wpAnyU_take (i := 0) (oi := { dst := some 44, op := Op.fieldAddr 25 (Operand.tmp 10) 2, type := 0, pos := "ref.go:186", after := #[], guard := none }) (v := ?_) [1, 8, 9, 10] rfl (by kernel_rfl) (by kernel_rfl) (by kernel_rfl) (by kernel_rfl) (fun _ _ _ h => h) (Or.inl ⟨by rfl, ?_⟩) (by assumption) ?_
          rotate_left
          · intro w hS; obtain ⟨hS0, hS1, hS2⟩ := hS; go_simp; with_reducible rfl
          try simp only [Act.put, aSA, aSZ, aSS]
          refine wpAnyU_take (i := 1) (oi := { dst := some 45, op := Op.load 22 (Operand.tmp 44), type := 22, pos := "ref.go:186", after := #[eDa 0], guard := none }) (v := ?_) [8, 9, 10] rfl (by kernel_rfl) (by kernel_rfl) (by kernel_rfl) (by kernel_rfl) (fun _ _ _ h => h) (Or.inl ⟨by rfl, ?_⟩) (by assumption) ?_
          rotate_left
          · intro w hS; obtain ⟨hS0, hS1, hS2⟩ := hS; go_simp; with_reducible rfl
          try simp only [Act.put, aSA, aSZ, aSS]
          refine wpAnyU_take (i := 2) (oi := { dst := some 46, op := Op.move (Operand.tmp 0), type := 212, pos := "ref.go:186", after := #[], guard := none }) (v := ?_) [4, 5, 6, 7, 8, 9, 10] rfl (by kernel_rfl) (by kernel_rfl) (by kernel_rfl) (by kernel_rfl) (fun _ _ _ h => h) (Or.inl ⟨by rfl, ?_⟩) (by assumption) ?_
          rotate_left
          · intro w hS; obtain ⟨hS0, hS1, hS2⟩ := hS; go_simp; with_reducible rfl
          try simp only [Act.put, aSA, aSZ, aSS]
          refine wpAnyU_take (i := 3) (oi := { dst := some 47, op := Op.move (Operand.tmp 1), type := 3, pos := "ref.go:186", after := #[], guard := none }) (v := ?_) [4, 5, 6, 7, 8, 9, 10] rfl (by kernel_rfl) (by kernel_rfl) (by kernel_rfl) (by kernel_rfl) (fun _ _ _ h => h) (Or.inl ⟨by rfl, ?_⟩) (by assumption) ?_
          rotate_left
          · intro w hS; obtain ⟨hS0, hS1, hS2⟩ := hS; go_simp; with_reducible rfl
          try simp only [Act.put, aSA, aSZ, aSS]
          refine wpAnyU_take (i := 4) (oi := { dst := some 48, op := Op.indexAddr 212 (Operand.tmp 46) (Operand.tmp 47), type := 0, pos := "ref.go:186", after := #[eDa 2, eDa 3], guard := none }) (v := ?_) [5, 6, 7, 8, 9, 10] rfl (by kernel_rfl) (by kernel_rfl) (by kernel_rfl) (by kernel_rfl) (fun _ _ _ h => h) (Or.inl ⟨by rfl, ?_⟩) (by assumption) ?_
          rotate_left
          · intro w hS; obtain ⟨hS0, hS1, hS2⟩ := hS; go_simp; with_reducible rfl
          try simp only [Act.put, aSA, aSZ, aSS]
          refine wpAnyU_take (i := 5) (oi := { dst := some 49, op := Op.fieldAddr 256 (Operand.tmp 48) 1, type := 0, pos := "ref.go:186", after := #[eDa 4], guard := none }) (v := ?_) [6, 7, 8, 9, 10] rfl (by kernel_rfl) (by kernel_rfl) (by kernel_rfl) (by kernel_rfl) (fun _ _ _ h => h) (Or.inl ⟨by rfl, ?_⟩) (by assumption) ?_
          rotate_left
          · intro w hS; obtain ⟨hS0, hS1, hS2⟩ := hS; go_simp; with_reducible rfl
          try simp only [Act.put, aSA, aSZ, aSS]
          refine wpAnyU_take (i := 6) (oi := { dst := some 50, op := Op.load 9 (Operand.tmp 49), type := 9, pos := "ref.go:186", after := #[eDa 5], guard := none }) (v := ?_) [7, 8, 9, 10] rfl (by kernel_rfl) (by kernel_rfl) (by kernel_rfl) (by kernel_rfl) (fun _ _ _ h => h) (Or.inl ⟨by rfl, ?_⟩) (by assumption) ?_
          rotate_left
          · intro w hS; obtain ⟨hS0, hS1, hS2⟩ := hS; go_simp; with_reducible rfl
          try simp only [Act.put, aSA, aSZ, aSS]
          refine wpAnyU_ready (rs := [7]) (by kernel_rfl) (by simp) (AllReadyU.cons (o := { dst := some 51, op := Op.buildSlice 22 1 #[(0, Operand.tmp 50)], type := 22, pos := "ref.go:186", after := #[eDa 6], guard := none }) rfl (fun K hK => ?_) AllReadyU.nil)
          rw [if_pos (by rfl)]
          go_simp
          (have F6 : FrP (fun b => (Value.slice pk0 ks.length ck0).ownBlock = some b) wr (wr.drew.alloc (.cells #[.string U] 9)) := (FrP.refl _ _).drew.alloc _)
          refine hK.out _ _ (fun _ => HS7.out _ F6) (fun hS2 => ?_)
          replace hS2 := hS2 (by decide)
          clear hK K
          try simp only [Act.put, aSA, aSZ, aSS]
          refine wpAnyU_ready (rs := [8]) (by kernel_rfl) (by simp) (AllReadyU.cons (o := { dst := some 52, op := Op.call { callee := Callee.builtin Builtin.append, args := #[Operand.tmp 45, Operand.tmp 51], argTypes := #[22, 22] }, type := 22, pos := "ref.go:186", after := #[eDa 1, eDa 7], guard := none }) rfl (fun K hK => ?_) AllReadyU.nil)
          rw [if_pos (by rfl)]
          refine wp_append_own_at (.tmp 45) (.tmp 51) 22 rfl (w.heap.size + 1) 9 i9_ _ 1 16 Tryz.underlying22 hi9 hz90 hz91 hz92 rfl (by decide) (.slice pk0 ks.length ck0) ks.length (strC ks) rfl (hrk.alloc (.cells #[.string U] 9)) ⟨wr.drew.heap.size, 0, none⟩ 1 1 [.string U] rfl rfl (new_cells _ _ _) (fun u hu => by simp only [List.mem_cons, List.not_mem_nil, or_false] at hu; subst hu; rfl) (by unfold maxLen; omega) (by omega) (by have := (ltS HCV.out.hd); simp; omega) ?_; intro kv2 w7 hk2 hgk hat2; have F7 := F6.trans (FrP.of_row hgk (fun k hk => hk)); obtain ⟨y1, y2, y3⟩ := HS7.out _ F7; obtain ⟨pk2, ck2, rfl⟩ := row_form hk2
          refine hK.out _ _ (fun _ => HS7.out _ F7) (fun hS2 => ?_)
          replace hS2 := hS2 (by decide)
          clear hK K
          try simp only [Act.put, aSA, aSZ, aSS]
          refine wpAnyU_pure (i := 9) (oi := { dst := some 53, op := Op.fieldAddr 25 (Operand.tmp 10) 2, type := 0, pos := "ref.go:186", after := #[ePh 0, ePh 1, ePh 2, ePh 3, ePh 4, ePh 5, ePh 6, ePh 7, ePh 8], guard := none }) (v := ?_) rfl (by kernel_rfl) (by kernel_rfl) (by kernel_rfl) (by kernel_rfl) (fun _ _ _ h => h) (Or.inl ⟨by rfl, ?_⟩) (fun _ => by assumption) ?_
          rotate_left
          · intro w _; go_simp; with_reducible rfl
          try simp only [Act.put, aSA, aSZ, aSS]
          refine wpAnyU_ready (rs := [10]) (by kernel_rfl) (by simp) (AllReadyU.cons (o := { dst := none, op := Op.store 22 (Operand.tmp 53) (Operand.tmp 52), type := 0, pos := "ref.go:186", after := #[eDa 9, eDa 8, eCh 8, ePh 0, ePh 1, ePh 2, ePh 3, ePh 4, ePh 5, ePh 6, ePh 7, ePh 8], guard := none }) rfl (fun K hK => ?_) AllReadyU.nil)
          rw [if_pos (by rfl)]
          go_simp
          refine hK.out _ _ (fun h => absurd h (by decide)) (fun _ => ?_)
          clear hK K
          try simp only [Act.put, aSA, aSZ, aSS]
          refine wpAnyU_done (by kernel_rfl) ?_ _
          obtain ⟨hC, F2⟩ := CV.addK (u := x) (HCV.out.below (Below.refl _ _).drew) (World.grownBy_alloc wr.drew (.cells #[.string U] 9) none) hgk hat2 (by rw [HU.out]; exact hk2)
          obtain ⟨wv, hwv2⟩ : ∃ wv, w7.setCell ⟨w.heap.size + 1, 2, none⟩ (.slice pk2 (ks.length + 1) ck2) = wv := ⟨_, rfl⟩
          rw [hwv2] at hC F2 ⊢
          have hBw : Below w.heap.size w wv := below_fr HB.out.drew (Nat.le_refl _) F2 (fun b hb => by
           rcases hb with rfl | hb
           · omega
           · have := (row_lt HCV.out.rk hb).1; omega)
          have hJw : JBox wv w.heap.size := (HJ1.out : JBox wr.drew _).same (F2.block _ HJ1.out.lt (fun e => by
           rcases e with e | e
           · omega
           · have := (row_lt HCV.out.rk e).1; omega))
          have hT2 := HT2a.out
          have hlk : (ks ++ [x]).length = ks.length + 1 := by rw [List.length_append]; rfl
          clear hwv2 F2 hk2 hgk hat2 F6 F7 y1 y2 y3 hHeld hrk HS7 hq q2 k0 k1 hksl hvlt hgl
          have hval := IH m hm wv (some ⟨g, o, none⟩) c R K (j + 2) (HT.out wv hBw) HK1.out (Nat.le_trans HR.out hBw.size) HKL.out hjx hfu2
          rw [show ((j + 2 : Nat) : Int) = (j : Int) + 2 by omega] at hval
          have HBW := Lib.hid hBw
          have HC := Lib.hid hC
          have HJ := Lib.hid hJw
          have HT2 := Lib.hid hT2
          cases hv : valP m (K.drop (j + 2)) with
          | none =>
           rw [hv] at hval
           have hTn : T = none := by rw [← HT2.out, hv]
           have HTN := Lib.hid hTn
           clear hTn hv hC hJw hBw 
           go_wp2_with (first
            | (go_at_call 152; refine hval.mono ?_; rintro e w5 ⟨hb5, k1, S1, p1, n1, c1, p1', n1', c1', rfl⟩
               obtain ⟨V5, hV5⟩ : ∃ V, w5.alloc (.cells #[.int .i64 k1, .string S1, .slice p1 n1 c1, .slice p1' n1' c1'] 25) = V := ⟨_, rfl⟩
               have b5 := Below.on hb5 (alloc_b hV5)
               obtain ⟨o0, o1, o2, o3⟩ := cells4 (HC.out.below b5).hd
               have HJB := Lib.hid (HJ.out.same (b5.block _ HJ.out.lt)))
            | (refine store_val rfl (.tmp 8) (.tmp 64) rfl w.heap.size rfl (.int .i64 6) (.string ⟨#[]⟩) (.slice pk2 (ks.length + 1) ck2) (.slice pi0 L.length ci0) rfl rfl HJB.out (fun V hV hgV _ => ?_)))
           refine bodyPost_ret (ret_val2 Tryz.results202 rfl rfl hV) rfl ?_
           exact RVP.bad HTN.out (below_fr (Below.on HBW.out b5) (Nat.le_refl _) (FrP.of (P := fun b => b = w.heap.size) hgV rfl) (fun b hb => by omega))
          | some q =>
           obtain ⟨v, r3⟩ := q
           rw [hv] at hval
           have hsuf := (val_suf m).1 _ _ _ hv
           have hln := (val_len m).1 _ _ _ hv
           obtain ⟨nx, hnx⟩ : ∃ nx, K.length - r3.length = nx := ⟨_, rfl⟩
           have hd3 : K.drop nx = r3 := by rw [← hnx]; exact (List.suffix_iff_eq_drop.1 (hsuf.trans (List.drop_suffix _ _))).symm
           have hl3 : r3.length + (j + 2) < K.length := by rw [List.length_drop] at hln; omega
           have hn0 : ¬ ((nx : Nat) : Int) < 0 := by omega
           have hnb : nx ≤ 33554432 := by have := HKL.out; omega
           have hT3 : T = if r3.head? = some (1, endK true) then some (lv true (ks ++ [x]) (its ++ [v]), r3.tail) else if r3.head? = some (1, [44]) then itmP m true r3.tail (ks ++ [x]) (its ++ [v]) else none := by
            rw [← HT2.out, hv]
           obtain ⟨Y, hY⟩ : ∃ Y : ByteArray, (⟨v.str.toArray⟩ : ByteArray) = Y := ⟨_, rfl⟩
           have HY := Lib.hid hY
           have HT3 := Lib.hid hT3
           have HD3 := Lib.hid hd3
           have HL3 := Lib.hid hl3
           have HNX := Lib.hid hnx
           replace hval := hval.mono (fun e w' h => RVP.out h hnx hY)
           clear hv hsuf hln hd3 hT3 hY hC hJw hBw  hnx
           go_upto_region 12 with (first
            | (go_at_call 152; refine hval.mono ?_; rintro e w5 ⟨hb5, kp, kc, ip, ic, rfl, hkp, hvl⟩
               obtain ⟨V5, hV5⟩ : ∃ V, w5.alloc (.cells #[.int .i64 v.kind, .string Y, .slice kp v.keys.length kc, .slice ip v.items.length ic] 25) = V := ⟨_, rfl⟩
               have b5 := Below.on hb5 (alloc_b hV5)))
           have hC5 := HC.out.below b5
           obtain ⟨o0, o1, o2, o3⟩ := cells4 hC5.hd
           obtain ⟨x0, x1, x2, x3⟩ := cells4 (show V5.heap[w5.heap.size]? = some (.cells #[.int .i64 v.kind, .string Y, .slice kp v.keys.length kc, .slice ip v.items.length ic] 25 (0, 0)) by rw [← hV5]; exact alloc_at w5 _)
           have hLL : L.length ≤ 33554432 := by have := HLL.out; have := HL3.out; have := HKL.out; omega
           go_upto_region 13 with (first
            | (at_builtin; refine wpl_append_ownL rfl (.tmp 66) (.tmp 68) rfl (w.heap.size + 1) _ _ _ rfl (hC5.ri.alloc (.cells #[.int .i64 v.kind, .string Y, .slice kp v.keys.length kc, .slice ip v.items.length ic] 25)) ⟨V5.heap.size, 0, none⟩ 1 [.int .i64 v.kind, .string Y, .slice kp v.keys.length kc, .slice ip v.items.length ic] rfl rfl (new_cells _ _ _) (fun u hu => by simp only [List.mem_cons, List.not_mem_nil, or_false] at hu; rcases hu with rfl | rfl | rfl | rfl <;> rfl) hLL (by have := (ltS hC5.hd); simp; omega) ?_
               intro iv2 w7 hi2 hgi hat2
               obtain ⟨pi2, ci2, rfl⟩ := row_form hi2
               obtain ⟨hC8, F8⟩ := CV.add (c := ⟨v, kp, kc, ip, ic⟩) HC.out (World.grownBy.refl wv none) (gb_below' hb5) (gb_below' ((alloc_b hV5).trans (((Below.refl V5.heap.size V5).alloc (Nat.le_refl _) (.cells #[.int .i64 v.kind, .string Y, .slice kp v.keys.length kc, .slice ip v.items.length ic] 25)).mono (alloc_b hV5).size))) hgi hat2 (by show w7.ownsRow _ _ _ _ _ (rowC L ++ [_, _, _, _]); rw [HY.out]; exact hi2) ⟨hkp, hvl⟩
               have F7 : FrP (fun b => (Value.slice pi0 L.length ci0).ownBlock = some b) V5 w7 := (FrP.of_none (World.grownBy_alloc V5 (.cells #[.int .i64 v.kind, .string Y, .slice kp v.keys.length kc, .slice ip v.items.length ic] 25) none)).trans (FrP.of_row hgi fun k hk => hk)
               have hd7 := (F7.block (w.heap.size + 1) (ltS hC5.hd) hC5.ni).trans hC5.hd
               have y3 := (cells4 hd7).2.2.2
               have yf : w7.frozen? ⟨w.heap.size + 1, 3, none⟩ = false := by simp [World.frozen?, hd7]
               clear hi2 hgi hat2 F7 hd7))
           obtain ⟨w8, hw8⟩ : ∃ w8, w7.setCell ⟨w.heap.size + 1, 3, none⟩ (.slice pi2 (L.length + 1) ci2) = w8 := ⟨_, rfl⟩
           rw [hw8] at hC8 F8 ⊢
           have hB8 : Below w.heap.size w w8 := below_fr HBW.out (Nat.le_refl _) F8 (fun b hb => by
            rcases hb with rfl | hb
            · omega
            · have := (row_lt HC.out.ri hb).1; omega)
           have HC8 := Lib.hid hC8
           obtain ⟨z0, z1, z2, z3⟩ := cells4 hC8.hd
           have HJB := Lib.hid (HJ.out.same (F8.block _ HJ.out.lt (fun e => by
            rcases e with e | e
            · omega
            · have := (row_lt HC.out.ri e).1; omega)))
           have hq := HIS.out w8 hB8 nx
           have HB8 := Lib.hid hB8
           have HZ8 : Hid ((L ++ [(⟨v, kp, kc, ip, ic⟩ : IC)]).length ≤ maxLen) := Lib.hid (by rw [List.length_append]; unfold maxLen; simp; omega)
           clear hw8 hC8 F8 hB8 o0 o1 o2 o3 x0 x1 x2 x3 hC5 hV5 b5 y3 yf hkp hvl hval
           by_cases he : r3.head? = some (1, endK true)
           · have q1 : tkIs K nx ⟨#[125]⟩ = true := tk_head (b := endK true) rfl (by rw [HD3.out]; exact decide_eq_true he)
             have hTg : T = some (lv true (ks ++ [x]) (its ++ [v]), r3.tail) := by rw [HT3.out, if_pos he]
             have HTG := Lib.hid hTg
             have hrl : 1 ≤ r3.length := by cases r3 with | nil => exact absurd he (by simp) | cons y t => simp
             clear he hTg
             go_wp2_with (first
              | (go_at_call 201; refine (hq _ (by have := HKL.out; have := HNX.out; omega)).mono ?_; rintro e1 w9 ⟨rfl, hw⟩; subst hw; rw [q1])
              | (refine store_val rfl (.tmp 8) (.tmp 75) rfl w.heap.size rfl (.int .i64 6) (.string ⟨#[]⟩) (.slice pk2 (ks.length + 1) ck2) (.slice pi2 (L.length + 1) ci2) rfl rfl HJB.out (fun V hV hgV _ => ?_)))
             refine bodyPost_ret (ret_val2 Tryz.results202 rfl rfl hV) rfl ?_
             exact CV.good HC8.out (by omega) HB8.out hgV ⟨HZ8.out, by have := HKS2.out; unfold maxLen; omega, fun s hs => Nat.le_trans (HKM2.out s hs) (by unfold maxLen; omega)⟩ (by rw [HTG.out]; unfold lv; rw [List.map_append, HITS.out]; rfl) (by have := HNX.out; have := HL3.out; rw [List.length_tail]; omega)
           · have q1 : tkIs K nx ⟨#[125]⟩ = false := tk_head (b := endK true) rfl (by rw [HD3.out]; exact decide_eq_false he)
             by_cases hcm : r3.head? = some (1, [44])
             · have q2 : tkIs K nx ⟨#[44]⟩ = true := tk_head (b := [44]) rfl (by rw [HD3.out]; exact decide_eq_true hcm)
               have hTg : itmP m true r3.tail (ks ++ [x]) (its ++ [v]) = T := by rw [HT3.out, if_neg he, if_pos hcm]
               have HTG := Lib.hid hTg
               have hrl : 1 ≤ r3.length := by cases r3 with | nil => exact absurd hcm (by simp) | cons y t => simp
               clear he hTg hcm
               go_wp2_with (first
                | (go_at_call 201; refine (hq _ (by have := HKL.out; have := HNX.out; omega)).mono ?_; rintro e1 w9 ⟨rfl, hw⟩; subst hw; first | rw [q1] | rw [q2]))
               go_roundw
               case rel =>
                have h3 := HL3.out
                have h4 := HNX.out
                have h5 : (K.drop (j + 2)).length = K.length - (j + 2) := List.length_drop
                refine ⟨m - 1, nx + 1, (ks ++ [x]), its ++ [v], _, _, _, by go_num, by omega, by omega, ?_, ?_, ?_, HC8.out, by rw [List.map_append, HITS.out]; rfl, ?_, HKM2.out, HB8.out, HJB.out⟩
                · rw [List.length_drop]; omega
                · rw [List.length_append, List.length_append, HKS.out]; rfl
                · rw [← List.tail_drop, HD3.out, show m - 1 + 1 = m by omega]; exact HTG.out
                · rw [List.length_append]; have := HLL.out; simp; omega
               case measure =>
                have h3 := HL3.out
                have h4 := HNX.out
                simp [RowKit.intOf]; omega
             · have q2 : tkIs K nx ⟨#[44]⟩ = false := tk_head (b := [44]) rfl (by rw [HD3.out]; exact decide_eq_false hcm)
               have hTg : T = none := by rw [HT3.out, if_neg he, if_neg hcm]
               have HTG := Lib.hid hTg
               clear he hTg hcm
               go_wp2_with (first
                | (go_at_call 201; refine (hq _ (by have := HKL.out; have := HNX.out; omega)).mono ?_; rintro e1 w9 ⟨rfl, hw⟩; subst hw; first | rw [q1] | rw [q2])
                | (refine store_val rfl (.tmp 8) (.tmp 82) rfl w.heap.size rfl (.int .i64 6) (.string ⟨#[]⟩) (.slice pk2 (ks.length + 1) ck2) (.slice pi2 (L.length + 1) ci2) rfl rfl HJB.out (fun V hV hgV _ => ?_)))
               refine bodyPost_ret (ret_val2 Tryz.results202 rfl rfl hV) rfl ?_
               exact RVP.bad HTG.out (below_fr HB8.out (Nat.le_refl _) (FrP.of (P := fun b => b = w.heap.size) hgV rfl) (fun b hb => by omega))
        · have q2 : tkIs K (j + 1) ⟨#[58]⟩ = false := tk_head (b := [58]) rfl (decide_eq_false hcol)
          obtain ⟨pk0, ck0, epk⟩ := row_form hC.rk
          obtain ⟨pi0, ci0, epi⟩ := row_form hC.ri
          obtain rfl := epk
          obtain rfl := epi
          obtain ⟨o0, o1, o2, o3⟩ := cells4 hC.hd
          have HB := Lib.hid hB
          have HJB := Lib.hid hJ
          have hTn : T = none := by rw [← hT1, itmP_succ]; rw [hdr, keyQ hcol]
          have HTN := Lib.hid hTn
          clear hTn hT1 hC hB hJ
          go_wp2_with (first
           | (go_at_call 201; refine (hq _ (by omega)).mono ?_; rintro e1 w9 ⟨rfl, hw⟩; subst hw; rw [q2])
           | (refine store_val rfl (.tmp 8) (.tmp 43) rfl w.heap.size rfl (.int .i64 6) (.string ⟨#[]⟩) (.slice pk0 ks.length ck0) (.slice pi0 L.length ci0) rfl rfl HJB.out (fun V hV hgV _ => ?_)))
          refine bodyPost_ret (ret_val2 Tryz.results202 rfl rfl hV) rfl ?_
          exact RVP.bad HTN.out (below_fr HB.out (Nat.le_refl _) (FrP.of (P := fun b => b = w.heap.size) hgV rfl) (fun b hb => by omega))
      · have hkk : ((k : Int) != 4) = true := by simp; omega
        obtain ⟨pk0, ck0, epk⟩ := row_form hC.rk
        obtain ⟨pi0, ci0, epi⟩ := row_form hC.ri
        obtain rfl := epk
        obtain rfl := epi
        obtain ⟨o0, o1, o2, o3⟩ := cells4 hC.hd
        have HB := Lib.hid hB
        have HJB := Lib.hid hJ
        have hTn : T = none := by rw [← hT1, itmP_succ]; rw [hdr]; rw [keyK hk]
        have HTN := Lib.hid hTn
        clear hTn hT1 hC hB hJ
        go_wp2_with (first
         | (refine store_val rfl (.tmp 8) (.tmp 43) rfl w.heap.size rfl (.int .i64 6) (.string ⟨#[]⟩) (.slice pk0 ks.length ck0) (.slice pi0 L.length ci0) rfl rfl HJB.out (fun V hV hgV _ => ?_)))
        refine bodyPost_ret (ret_val2 Tryz.results202 rfl rfl hV) rfl ?_
        exact RVP.bad HTN.out (below_fr HB.out (Nat.le_refl _) (FrP.of (P := fun b => b = w.heap.size) hgV rfl) (fun b hb => by omega))
    · have hge : ¬ (j : Int) < (K.length : Int) := hjn
      have hge2 : (j : Int) ≥ (K.length : Int) := by omega
      obtain ⟨pk0, ck0, epk⟩ := row_form hC.rk
      obtain ⟨pi0, ci0, epi⟩ := row_form hC.ri
      obtain rfl := epk
      obtain rfl := epi
      obtain ⟨o0, o1, o2, o3⟩ := cells4 hC.hd
      have HB := Lib.hid hB
      have HJB := Lib.hid hJ
      have hTn : T = none := by rw [← hT1, itmP_succ]; rw [List.drop_eq_nil_of_le (by omega)]; rfl
      have HTN := Lib.hid hTn
      clear hTn hT1 hC hB hJ
      go_wp2_with (first
       | (refine store_val rfl (.tmp 8) (.tmp 43) rfl w.heap.size rfl (.int .i64 6) (.string ⟨#[]⟩) (.slice pk0 ks.length ck0) (.slice pi0 L.length ci0) rfl rfl HJB.out (fun V hV hgV _ => ?_)))
      refine bodyPost_ret (ret_val2 Tryz.results202 rfl rfl hV) rfl ?_
      exact RVP.bad HTN.out (below_fr HB.out (Nat.le_refl _) (FrP.of (P := fun b => b = w.heap.size) hgV rfl) (fun b hb => by omega))
end Go.Proofs.Jt
/- Z9: The reference's value. Printed by gen_z9.py. -/
namespace Go.Proofs.Jt
open Go.RowKit Go.Maps Go.Lib Go.Proofs.Utf Go.Proofs

theorem RVP.leaf {w wr V : World} {N : Nat} {T : Option (JV × List KT)} {k : Int} {s : List UInt8} {S : ByteArray} {r : List KT} {j : Int} (hb : Below w.heap.size w wr) (hg : wr.grownBy V (some w.heap.size)) (hS : (⟨s.toArray⟩ : ByteArray) = S) (hs : s.length ≤ maxLen) (hT : T = some (.mk k s [] [], r)) (hj : j = ((N - r.length : Nat) : Int)) :
 RVP w N T (.returned (.tuple #[.agg #[.int .i64 k, .string S, .slice none 0 0, .slice none 0 0], .int .i64 j])) V := by
 subst hT hj hS
 exact ⟨below_fr hb (Nat.le_refl _) (FrP.of (P := fun b => b = w.heap.size) hg rfl) (fun b hb => by omega), none, 0, none, 0, rfl, KP.leaf _ _ _ _, hs⟩
theorem RVP.pass {w0 w w' : World} {N : Nat} {o : Option (JV × List KT)} {e : Ending} (h : RVP w N o e w') : ∃ k S p n c p' n' c' j, e = .returned (.tuple #[.agg #[.int .i64 k, .string S, .slice p n c, .slice p' n' c'], .int .i64 j]) ∧
 ∀ V z, w'.grownBy V (some z) → z < w.heap.size → w0.heap.size ≤ z → Below w0.heap.size w0 w → RVP w0 N o e V := by
 cases o with
 | none =>
  obtain ⟨hb, k, S, p, n, c, p', n', c', rfl⟩ := h
  exact ⟨k, S, p, n, c, p', n', c', -1, rfl, fun V z hg hz h0 h1 => ⟨below_fr (Below.on h1 hb) (Nat.le_refl _) (FrP.of (P := fun b => b = z) hg rfl) (fun b hb => by omega), k, S, p, n, c, p', n', c', rfl⟩⟩
 | some q =>
  obtain ⟨v, r⟩ := q
  obtain ⟨hb, kp, kc, ip, ic, rfl, hk, hl⟩ := h
  refine ⟨_, _, _, _, _, _, _, _, _, rfl, fun V z hg hz h0 h1 => ⟨below_fr (Below.on h1 hb) (Nat.le_refl _) (FrP.of (P := fun b => b = z) hg rfl) (fun b hb => by omega), kp, kc, ip, ic, rfl, ?_, hl⟩⟩
  have := h1.size
  exact (hk.fr (FrP.of (P := fun b => b = z) hg rfl) fun b hb e => by omega).keep (Nat.le_refl _) (fun _ _ _ => rfl) fun b hb _ => by omega
set_option maxRecDepth 100000 in
set_option maxHeartbeats 8000000 in
theorem rvalue_all : ∀ n, ValR n := by
 intro n
 induction n using Nat.strongRecOn with
 | ind n ih =>
 cases n with
 | zero => intro w p c R K i _ _ _ _ _ hn; omega
 | succ n =>
 intro w p c R K i h hK1 hR hl hi hn
 have IH : ∀ m, m + 1 ≤ n → ValR m := fun m hm => ih m (by omega)
 obtain ⟨W, hW⟩ : ∃ W, w.alloc (.cells #[.int .i64 0, .string ⟨#[]⟩, .slice none 0 0, .slice none 0 0] 25) = W := ⟨_, rfl⟩
 have bW := alloc_b hW
 have hz1 : W.heap.size = w.heap.size + 1 := by rw [← hW]; simp
 have hJ0 : JBox W w.heap.size := by rw [← hW]; exact JBox.alloc _ _ _ _ _
 clear ih
 by_cases hin : (i : Int) < (K.length : Int)
 · obtain ⟨y, hy⟩ : ∃ y, K[i]? = some y := ⟨_, List.getElem?_eq_getElem (by omega)⟩
   obtain ⟨k, x⟩ := y
   have hk1 : 1 ≤ k := hK1 _ (List.mem_of_getElem? hy)
   have hdr := drop_cons hy
   have hrl : (K.drop (i + 1)).length = K.length - (i + 1) := List.length_drop
   have hTW : TokP W R p K := h.kept fun b _ hl => bW.block b hl
   obtain ⟨g, o, rfl, hgR, k0, k1, hxl, hk4, hwd, u, v, k2, k3⟩ := hTW i k x hy
   obtain ⟨X, hX⟩ : ∃ X : ByteArray, (⟨x.toArray⟩ : ByteArray) = X := ⟨_, rfl⟩
   have hXl : X.toList = x := by rw [ByteArray.toList_eq, ← hX]
   rw [hX] at k1
   obtain ⟨W2, hW2⟩ : ∃ W2, W.alloc (.cells #[.int .i64 k, .string X, .int .i64 u, .int .i64 v] 256) = W2 := ⟨_, rfl⟩
   have bW2 := alloc_b hW2
   have bT := Below.on bW bW2
   have hz2 : W2.heap.size = w.heap.size + 2 := by rw [← hW2]; simp [hz1]
   obtain ⟨c0, c1, c2, c3⟩ := cells4 (show W2.heap[w.heap.size + 1]? = some (.cells #[.int .i64 k, .string X, .int .i64 u, .int .i64 v] 256 (0, 0)) by rw [← hz1, ← hW2]; exact alloc_at W _)
   have hJ2 : JBox W2 w.heap.size := hJ0.same (bW2.block _ hJ0.lt)
   have hTW2 : TokP W2 R (some ⟨g, o, none⟩) K := hTW.kept fun b _ hl => bW2.block b hl
   have HJ := Lib.hid hJ2
   have HBT := Lib.hid bT
   have HX := Lib.hid hX
   have HRL := Lib.hid hrl
   rw [hdr, valP_cons]
   have hix : ∀ m : Nat, ((i : Int) + 1) = ((K.length - (K.drop (i + 1)).length : Nat) : Int) := fun _ => by omega
   have hn2 : 2 * (K.drop (i + 1)).length + 2 ≤ n := by rw [hdr, List.length_cons] at hn; omega
   have hml : x.length ≤ maxLen := Nat.le_trans hxl (by unfold maxLen; omega)
   by_cases h2 : k = 2
   · subst h2
     rw [show ((2 : Nat) : Int) = 2 from rfl] at k0 c0 hW2
     have hx3 := hwd rfl
     rw [if_pos rfl]
     clear hwd hdr hy hTW hTW2 bW2 bT bW h hK1 hR hn2 hJ2 hJ0 hrl
     obtain ⟨t, ht2, hxt⟩ : ∃ t : Nat, t ≤ 2 ∧ x = [wNull, wFalse, wTrue].getD t [] := by
      rcases hx3 with rfl | rfl | rfl
      · exact ⟨0, by omega, rfl⟩
      · exact ⟨1, by omega, rfl⟩
      · exact ⟨2, by omega, rfl⟩
     have hval : (if x = wNull then some (jn 0, K.drop (i + 1)) else if x = wFalse then some (jn 1, K.drop (i + 1)) else if x = wTrue then some (jn 2, K.drop (i + 1)) else none) = some (jn (t : Int), K.drop (i + 1)) := by
      rcases (show t = 0 ∨ t = 1 ∨ t = 2 by omega) with rfl | rfl | rfl
      · have e : x = wNull := hxt
        rw [e, if_pos rfl]; rfl
      · have e : x = wFalse := hxt
        rw [e, if_neg (by decide), if_pos rfl]; rfl
      · have e : x = wTrue := hxt
        rw [e, if_neg (by decide), if_neg (by decide), if_pos rfl]; rfl
     rw [hval]
     obtain ⟨W3, hW3⟩ : ∃ W3, W2.alloc (.cells #[.string ⟨#[110, 117, 108, 108]⟩, .string ⟨#[102, 97, 108, 115, 101]⟩, .string ⟨#[116, 114, 117, 101]⟩] 9) = W3 := ⟨_, rfl⟩
     have bW3 := alloc_b hW3
     obtain ⟨r0, r1, r2, _⟩ := cells3 (show W3.heap[w.heap.size + 2]? = some (.cells #[.string ⟨#[110, 117, 108, 108]⟩, .string ⟨#[102, 97, 108, 115, 101]⟩, .string ⟨#[116, 114, 117, 101]⟩] 9 (0, 0)) by rw [← hz2, ← hW3]; exact alloc_at W2 _)
     have HF : Hid (∀ wr, Below W3.heap.size W3 wr → wr.cell? ⟨w.heap.size + 2, 0, none⟩ = some (.string ⟨#[110, 117, 108, 108]⟩) ∧ wr.cell? ⟨w.heap.size + 2, 1, none⟩ = some (.string ⟨#[102, 97, 108, 115, 101]⟩) ∧ wr.cell? ⟨w.heap.size + 2, 2, none⟩ = some (.string ⟨#[116, 114, 117, 101]⟩) ∧ wr.cell? ⟨w.heap.size + 1, 1, none⟩ = some (.string X) ∧ JBox wr w.heap.size) := Lib.hid fun wr hb => by
      have b3 := Below.on bW3 hb
      have hs3 : W3.heap.size = w.heap.size + 3 := by rw [← hW3]; simp [hz2]
      refine ⟨(hb.cell (p := ⟨w.heap.size + 2, 0, none⟩) (cell_blk r0)).trans r0, (hb.cell (p := ⟨w.heap.size + 2, 1, none⟩) (cell_blk r1)).trans r1, (hb.cell (p := ⟨w.heap.size + 2, 2, none⟩) (cell_blk r2)).trans r2, (b3.cell (p := ⟨w.heap.size + 1, 1, none⟩) (cell_blk c1)).trans c1, HJ.out.same (b3.block _ HJ.out.lt)⟩
     have HB3 := Lib.hid (Below.on HBT.out bW3)
     have HXT := Lib.hid hxt
     clear hx3 hval r0 r1 r2 bW3 hXl hxl hX hxt
     go_enter Tryz.func152, Tryz.ntmps152
     go_wp2_with fail
     go_loopw [8] (fun kv wr => ∃ j : Nat, kv = .int .i64 j ∧ j ≤ t ∧ Below W3.heap.size W3 wr) (fun kv _ => 3 - (RowKit.intOf kv).toNat)
     case atStart => exact ⟨0, rfl, Nat.zero_le _, Below.refl _ _⟩
     case round =>
      obtain ⟨j, rfl, hjt, hB⟩ := hrel
      clear c0 c1 c2 c3
      obtain ⟨s0, s1, s2, s3, hjb⟩ := HF.out wr hB
      clear hjb
      by_cases hjj : j = t
      · subst hjj
        rcases (show j = 0 ∨ j = 1 ∨ j = 2 by omega) with rfl | rfl | rfl
        all_goals
         obtain ⟨X', hX'⟩ : ∃ X', X = X' := ⟨_, rfl⟩
         have hXe := HX.out
         rw [HXT.out] at hXe
         subst hXe
         simp [wNull, wFalse, wTrue] at s3
         go_upto_region 10 with fail
         go_quiet (fail)
         have hBd := below_draws hB nq
         obtain ⟨s0', s1', s2', s3', hjb'⟩ := HF.out _ hBd
         have HJB := Lib.hid hjb'
         clear hjb' s0' s1' s2' s3'
         generalize wr.drewN nq = wd at *
         go_wp2_with (first | (refine store_val rfl (.tmp 4) (.tmp 35) rfl w.heap.size rfl (.int .i64 _) (.string ⟨#[]⟩) (.slice none 0 0) (.slice none 0 0) rfl rfl HJB.out (fun V hV hgV _ => ?_)))
         refine bodyPost_ret (ret_val2 Tryz.results152 rfl rfl hV) rfl ?_
         exact RVP.leaf (s := []) (Below.on HB3.out hBd) hgV rfl (Nat.zero_le _) rfl (hix 0)
      · have hj2 : (j = 0 ∧ t = 1) ∨ (j = 0 ∧ t = 2) ∨ (j = 1 ∧ t = 2) := by omega
        rcases hj2 with ⟨rfl, rfl⟩ | ⟨rfl, rfl⟩ | ⟨rfl, rfl⟩
        all_goals
         have hXe := HX.out
         rw [HXT.out] at hXe
         subst hXe
         simp [wNull, wFalse, wTrue] at s3
         go_upto_region 10 with fail
         go_quiet (fail)
         have hBd := below_draws hB nq
         obtain ⟨s0', s1', s2', s3', hjb'⟩ := HF.out _ hBd
         have HJB := Lib.hid hjb'
         clear hjb' s0' s1' s2' s3'
         generalize wr.drewN nq = wd at *
         go_wp2_with fail
         go_roundw
         case rel => first | exact ⟨1, by go_num, by omega, hBd⟩ | exact ⟨2, by go_num, by omega, hBd⟩
         case measure => simp [RowKit.intOf]
   · by_cases h3 : k = 3
     · subst h3
       rw [show ((3 : Nat) : Int) = 3 from rfl] at k0 c0 hW2
       rw [if_neg (by decide), if_pos rfl]
       clear hwd hdr hy hTW hTW2 bW2 bT bW h hK1 hR hn2 hJ2 hJ0 hXl hX hrl
       go_enter Tryz.func152, Tryz.ntmps152
       go_wp2_with (first | (refine store_val rfl (.tmp 4) (.tmp 43) rfl w.heap.size rfl (.int .i64 3) (.string X) (.slice none 0 0) (.slice none 0 0) rfl rfl HJ.out (fun V hV hgV _ => ?_)))
       refine bodyPost_ret (ret_val2 Tryz.results152 rfl rfl hV) rfl ?_
       exact RVP.leaf HBT.out hgV HX.out hml rfl (hix 0)
     · by_cases h4 : k = 4
       · subst h4
         rw [show ((4 : Nat) : Int) = 4 from rfl] at k0 c0 hW2
         rw [if_neg (by decide), if_neg (by decide), if_pos rfl]
         clear hwd hdr hy hTW hTW2 bW2 bT bW h hK1 hR hn2 hJ2 hJ0 hXl hX hrl
         go_enter Tryz.func152, Tryz.ntmps152
         go_wp2_with (first | (refine store_val rfl (.tmp 4) (.tmp 50) rfl w.heap.size rfl (.int .i64 4) (.string X) (.slice none 0 0) (.slice none 0 0) rfl rfl HJ.out (fun V hV hgV _ => ?_)))
         refine bodyPost_ret (ret_val2 Tryz.results152 rfl rfl hV) rfl ?_
         exact RVP.leaf HBT.out hgV HX.out hml rfl (hix 0)
       · have hk : k = 1 := by omega
         subst hk
         rw [show ((1 : Nat) : Int) = 1 from rfl] at k0 c0 hW2
         rw [if_neg (by decide), if_neg (by decide), if_neg (by decide)]
         by_cases ha : x = [91]
         · subst ha
           rw [if_pos ⟨rfl, rfl⟩]
           have hcall := rlist_arr (n := n) IH hTW2 (c := c) hK1 (by omega) hl (i := i + 1) (by omega) hn2
           rw [show ((i + 1 : Nat) : Int) = (i : Int) + 1 by omega] at hcall
           obtain rfl : X = ⟨#[91]⟩ := by rw [← hX]
           clear hwd hdr hy hTW hTW2 bW2 bT bW h hK1 hR hn2 hJ2 hJ0 hXl hX hrl
           show Calls Tryz.prog 152 _ w (RVP w K.length (lisP n false (K.drop (i + 1))))
           go_enter Tryz.func152, Tryz.ntmps152
           go_wp2_with (first
            | (go_at_call 202; refine hcall.mono ?_; rintro e w5 h5
               have hb5 : Below W2.heap.size W2 w5 := h5.1
               obtain ⟨k5, S5, p5, n5, c5, p5', n5', c5', j5, rfl, hps⟩ := RVP.pass (w0 := w) h5
               have HJB := Lib.hid (HJ.out.same (hb5.block _ HJ.out.lt)))
            | (refine store_val rfl (.tmp 4) (.tmp 60) rfl w.heap.size rfl (.int .i64 k5) (.string S5) (.slice p5 n5 c5) (.slice p5' n5' c5') rfl rfl HJB.out (fun V hV hgV _ => ?_)))
           refine bodyPost_ret (ret_val2 Tryz.results152 rfl rfl hV) rfl ?_
           exact hps V _ hgV (by omega) (Nat.le_refl _) HBT.out
         · by_cases hb : x = [123]
           · subst hb
             rw [if_neg (by intro h; exact absurd h.2 (by decide)), if_pos ⟨rfl, rfl⟩]
             have hcall := rlist_obj (n := n) IH hTW2 (c := c) hK1 (by omega) hl (i := i + 1) (by omega) hn2
             rw [show ((i + 1 : Nat) : Int) = (i : Int) + 1 by omega] at hcall
             obtain rfl : X = ⟨#[123]⟩ := by rw [← hX]
             clear hwd hdr hy hTW hTW2 bW2 bT bW h hK1 hR hn2 hJ2 hJ0 hXl hX hrl ha
             show Calls Tryz.prog 152 _ w (RVP w K.length (lisP n true (K.drop (i + 1))))
             go_enter Tryz.func152, Tryz.ntmps152
             go_wp2_with (first
              | (go_at_call 202; refine hcall.mono ?_; rintro e w5 h5
                 have hb5 : Below W2.heap.size W2 w5 := h5.1
                 obtain ⟨k5, S5, p5, n5, c5, p5', n5', c5', j5, rfl, hps⟩ := RVP.pass (w0 := w) h5
                 have HJB := Lib.hid (HJ.out.same (hb5.block _ HJ.out.lt)))
              | (refine store_val rfl (.tmp 4) (.tmp 69) rfl w.heap.size rfl (.int .i64 k5) (.string S5) (.slice p5 n5 c5) (.slice p5' n5' c5') rfl rfl HJB.out (fun V hV hgV _ => ?_)))
             refine bodyPost_ret (ret_val2 Tryz.results152 rfl rfl hV) rfl ?_
             exact hps V _ hgV (by omega) (Nat.le_refl _) HBT.out
           · rw [if_neg (fun h => ha h.2), if_neg (fun h => hb h.2)]
             have f1 : ¬ X.toList = [91] := fun e => ha (by rw [← hXl, e])
             have f2 : ¬ X.toList = [123] := fun e => hb (by rw [← hXl, e])
             have f3 : (X.toList == [91]) = false := beq_eq_false_iff_ne.2 f1
             have f4 : (X.toList == [123]) = false := beq_eq_false_iff_ne.2 f2
             clear hwd hdr hy hTW hTW2 bW2 bT bW h hK1 hR hn2 hJ2 hJ0 hXl hX hrl ha hb
             go_enter Tryz.func152, Tryz.ntmps152
             go_wp2_with (first | (refine store_val rfl (.tmp 4) (.tmp 71) rfl w.heap.size rfl (.int .i64 0) (.string ⟨#[]⟩) (.slice none 0 0) (.slice none 0 0) rfl rfl HJ.out (fun V hV hgV _ => ?_)))
             refine bodyPost_ret (ret_val2 Tryz.results152 rfl rfl hV) rfl ?_
             exact RVP.bad rfl (below_fr HBT.out (Nat.le_refl _) (FrP.of (P := fun b => b = w.heap.size) hgV rfl) (fun b hb => by omega))
 · have hnil : K.drop i = [] := List.drop_eq_nil_of_le (by omega)
   have hge : (i : Int) ≥ (K.length : Int) := by omega
   have hT : valP (n + 1) (K.drop i) = none := by rw [hnil]; unfold valP; rfl
   have HT := Lib.hid hT
   have HJ := Lib.hid hJ0
   have HB := Lib.hid bW
   clear hT hJ0 bW hnil h hK1 hR
   go_enter Tryz.func152, Tryz.ntmps152
   go_wp2_with (first | (refine store_val rfl (.tmp 4) (.tmp 13) rfl w.heap.size rfl (.int .i64 0) (.string ⟨#[]⟩) (.slice none 0 0) (.slice none 0 0) rfl rfl HJ.out (fun V hV hgV _ => ?_)))
   refine bodyPost_ret (ret_val2 Tryz.results152 rfl rfl hV) rfl ?_
   exact RVP.bad HT.out (below_fr HB.out (Nat.le_refl _) (FrP.of (P := fun b => b = w.heap.size) hgV rfl) (fun b hb => by omega))
end Go.Proofs.Jt
/- Z10: The reference's Parse. Printed by gen_z10.py. -/
namespace Go.Proofs.Jt
open Go.RowKit Go.Maps Go.Lib Go.Proofs.Utf Go.Proofs

theorem next_kind1 {l : List UInt8} {k : Nat} {x : List UInt8} {m : Nat} (h : nextL l = some (k, x, m)) : 1 ≤ k := by
 cases l with
 | nil => cases h
 | cons c t =>
  rw [nextL_cons] at h
  split at h
  · cases h; omega
  · split at h
    · obtain ⟨q, hq, e⟩ := Option.map_eq_some_iff.1 h
      cases e; omega
    · split at h
      · cases h; omega
      · split at h
        · cases h; omega
        · cases h
theorem Lx.k1 {l : List UInt8} {a : Nat} {T : List Tok} (h : Lx l a T) : ∀ y ∈ kt T, 1 ≤ y.1 := by
 induction h with
 | nil a => intro y hy; cases hy
 | blank h _ ih => exact ih
 | @tok c t a T k x m h h1 h2 ih =>
  intro y hy
  rcases List.mem_cons.1 hy with e | hy
  · cases e
    exact next_kind1 h1
  · exact ih y hy
theorem PP.okv {w w3 w5 w6 V : World} {l : List UInt8} {v : JV} {S : ByteArray} {kp ip : Option Addr} {kc ic : Nat} (hp : parV l = (v, 0)) (hS : (⟨v.str.toArray⟩ : ByteArray) = S) (hk : KP w5 (w3.heap.size ≤ ·) v kp kc ip ic) (hvl : v.str.length ≤ maxLen) (hz : w.heap.size < w3.heap.size) (h6 : Below w5.heap.size w5 w6) (hb : Below w.heap.size w w6) (hg : w6.grownBy V (some w.heap.size)) :
 PP w l (.returned (.tuple #[.agg #[.int .i64 v.kind, .string S, .slice kp v.keys.length kc, .slice ip v.items.length ic], .int .i64 0])) V := by
 subst hS
 refine ⟨⟨kp, kc, ip, ic, by rw [hp]; rfl, ?_, by rw [hp]; exact hvl⟩, below_gbz hb (Nat.le_refl _) hg⟩
 rw [hp]
 exact (hk.fr ((FrP.of_none (P := fun b => b = w.heap.size) (gb_below' h6)).trans (FrP.of hg rfl)) fun b hb e => by omega).keep (Nat.le_refl _) (fun _ _ _ => rfl) fun b hb _ => by omega
set_option maxRecDepth 100000 in
set_option maxHeartbeats 8000000 in
theorem rparse_any (s : ByteArray) (w : World) (hs : s.size ≤ 5000) : Calls Tryz.prog 95 #[.string s] w (PP w s.data.toList) := by
 obtain ⟨W, hW⟩ : ∃ W, w.alloc (.cells #[.int .i64 0, .string ⟨#[]⟩, .slice none 0 0, .slice none 0 0] 25) = W := ⟨_, rfl⟩
 have bW : Below w.heap.size w W := by rw [← hW]; exact (Below.refl _ _).alloc (Nat.le_refl _) _
 have hz0 : JBox W w.heap.size := by rw [← hW]; exact JBox.alloc _ _ _ _ _
 have htk := tokens_ref s W (by omega)
 have hsl : s.data.toList.length = s.size := Array.length_toList
 obtain ⟨l, hl⟩ : ∃ l, s.data.toList = l := ⟨_, rfl⟩
 rw [hl] at htk hsl ⊢
 have hpar : parV l = if (toksL l).2.2 ≠ 0 then (jn 0, (toksL l).2.2) else if 64 < openN (kt (toksL l).1) 0 0 then (jn 0, 3) else match valP (2 * (toksL l).1.length + 1) (kt (toksL l).1) with
  | some (v, []) => if v.dup then (jn 0, 13) else (v, 0)
  | _ => (jn 0, 4) := rfl
 have hlx := @toks_lx l
 obtain ⟨T, A, E, hTK⟩ : ∃ T A E, toksL l = (T, A, E) := ⟨_, _, _, rfl⟩
 rw [hTK] at htk hpar hlx
 dsimp only at htk hpar hlx
 have HB0 := Lib.hid bW
 have HZ := Lib.hid hz0
 have HP := Lib.hid hpar
 have HSL := Lib.hid hsl
 clear hsl bW hz0 hl hTK
 by_cases hE : E = 0
 · obtain ⟨hv, hx⟩ := hlx hE
   have hwk : WK (kt T) := hx.wk (by have := HSL.out; omega)
   have hkw := hx.kw_le
   have hktl : (kt T).length = T.length := List.length_map ..
   have hkl : (kt T).length ≤ 10000 := by
    have h1 : ∀ K : List KT, K.length ≤ kw K := fun K => by
     induction K with
     | nil => exact Nat.le_refl _
     | cons y t ih => obtain ⟨k, x⟩ := y; simp only [List.length_cons, kw]; omega
    have := h1 (kt T)
    have := HSL.out
    omega
   have HWK := Lib.hid hwk
   have HKT := Lib.hid hktl
   have HKL := Lib.hid hkl
   have HK1 := Lib.hid hx.k1
   have HGK := Lib.hid (hx.good hv)
   have HKW : Hid (kw (kt T) ≤ 10000) := Lib.hid (by have := HSL.out; omega)
   rw [if_neg (fun h => h hE)] at hpar
   subst hE
   clear hlx hv hx hwk hkw hktl
   obtain ⟨D, hD⟩ : ∃ D, openN (kt T) 0 0 = D := ⟨_, rfl⟩
   rw [hD] at hpar
   have HOP := Lib.hid hD
   clear hD
   by_cases hd : 64 < D
   · rw [if_pos hd] at hpar
     have hd2 : (D : Int) > 64 := by omega
     have HPE := Lib.hid hpar
     clear hpar HP
     go_enter Tryz.func95, Tryz.ntmps95
     go_wp2_with (first
      | (go_at_call 150; refine htk.mono ?_; rintro e w2 ⟨tv, rfl, hrow, hb2⟩
         obtain ⟨p, c, rfl, hc, hcm, hTP⟩ := tokP_rowE hrow (Nat.le_refl _) HWK.out
         have hop := ropen_any (c := c) hTP (by have := HKL.out; omega) w2 (Below.refl _ _)
         rw [HOP.out] at hop
         have hbx : JBox w2 w.heap.size := HZ.out.same (hb2.block _ HZ.out.lt)
         have HB := Lib.hid hbx
         have HB2 := Lib.hid (Below.on HB0.out hb2)
         have HTP := Lib.hid hTP
         clear hTP hc hcm hrow htk hbx)
      | (go_at_call 151; refine hop.mono ?_; rintro e w3 ⟨rfl, hw⟩; subst hw)
      | (refine store_val rfl (.tmp 2) (.tmp 22) rfl w.heap.size rfl (.int .i64 0) (.string ⟨#[]⟩) (.slice none 0 0) (.slice none 0 0) rfl rfl HB.out (fun V hV hgV _ => ?_)))
     refine bodyPost_ret (ret_val2 Tryz.results95 rfl rfl hV) rfl (PP.zero HPE.out ?_ rfl)
     exact below_gbz HB2.out (Nat.le_refl _) hgV
   · rw [if_neg hd] at hpar
     have hd2 : ¬ (D : Int) > 64 := by omega
     clear HP
     cases ho : valP (2 * T.length + 1) (kt T) with
     | none =>
      rw [ho] at hpar
      have HPE := Lib.hid hpar
      have HVO := Lib.hid ho
      have nm : ((-1 : Int) != ((kt T).length : Int)) = true := bne_iff_ne.2 (by omega)
      clear ho hpar
      go_enter Tryz.func95, Tryz.ntmps95
      go_wp2_with (first
       | (go_at_call 150; refine htk.mono ?_; rintro e w2 ⟨tv, rfl, hrow, hb2⟩
          obtain ⟨p, c, rfl, hc, hcm, hTP⟩ := tokP_rowE hrow (Nat.le_refl _) HWK.out
          have hop := ropen_any (c := c) hTP (by have := HKL.out; omega) w2 (Below.refl _ _)
          rw [HOP.out] at hop
          have hbx : JBox w2 w.heap.size := HZ.out.same (hb2.block _ HZ.out.lt)
          have HB := Lib.hid hbx
          have HB2 := Lib.hid (Below.on HB0.out hb2)
          have HTP := Lib.hid hTP
          clear hTP hc hcm hrow htk hbx)
       | (go_at_call 151; refine hop.mono ?_; rintro e w3 ⟨rfl, hw⟩; subst hw
          have hval := rvalue_all (2 * T.length + 1) w3 p c w3.heap.size (kt T) 0 HTP.out HK1.out (Nat.le_refl _) (by have := HKL.out; omega) (Nat.zero_le _) (by rw [List.drop_zero]; have := HKT.out; omega)
          rw [List.drop_zero, HVO.out, show ((0 : Nat) : Int) = 0 from rfl] at hval
          have HZS : Hid (w.heap.size < w3.heap.size) := Lib.hid (HB.out.lt))
       | (go_at_call 152; refine hval.mono ?_; rintro e w5 ⟨hb5, k1, S1, p1, n1, c1, p1', n1', c1', rfl⟩
          obtain ⟨V5, hV5⟩ : ∃ V, w5.alloc (.cells #[.int .i64 k1, .string S1, .slice p1 n1 c1, .slice p1' n1' c1'] 25) = V := ⟨_, rfl⟩
          have b5 := Below.on hb5 (alloc_b hV5)
          have HB5 := Lib.hid (Below.on HB2.out b5)
          replace HB := Lib.hid (HB.out.same (b5.block _ HB.out.lt)))
       | (refine store_val rfl (.tmp 2) (.tmp 32) rfl w.heap.size rfl (.int .i64 0) (.string ⟨#[]⟩) (.slice none 0 0) (.slice none 0 0) rfl rfl HB.out (fun V hV hgV _ => ?_)))
      refine bodyPost_ret (ret_val2 Tryz.results95 rfl rfl hV) rfl (PP.zero HPE.out ?_ rfl)
      exact below_gbz HB5.out (Nat.le_refl _) hgV
     | some q =>
      obtain ⟨v, r⟩ := q
      have hok := (val_ok _).1 _ _ _ HGK.out ho
      have hwt := (val_wt _).1 _ _ _ ho
      have hln := (val_len _).1 _ _ _ ho
      have hfn := ok_fnd v hok.1
      rw [ho] at hpar
      have HVO := Lib.hid ho
      obtain ⟨Y, hY⟩ : ∃ Y : ByteArray, (⟨v.str.toArray⟩ : ByteArray) = Y := ⟨_, rfl⟩
      have HY := Lib.hid hY
      have HWT : Hid (v.wt ≤ 1000000) := Lib.hid (by have := HKW.out; omega)
      cases r with
      | cons y t =>
       have hpe : parV l = (jn 0, 4) := hpar
       have HPE := Lib.hid hpe
       obtain ⟨nx, hnx⟩ : ∃ nx, (kt T).length - (y :: t).length = nx := ⟨_, rfl⟩
       have nm : ((nx : Int) != ((kt T).length : Int)) = true := by
        rw [List.length_cons] at hnx hln
        simp
        omega
       have HNX := Lib.hid hnx
       clear ho hpar hpe hok hwt hfn hY hnx hln
       go_enter Tryz.func95, Tryz.ntmps95
       go_wp2_with (first
        | (go_at_call 150; refine htk.mono ?_; rintro e w2 ⟨tv, rfl, hrow, hb2⟩
           obtain ⟨p, c, rfl, hc, hcm, hTP⟩ := tokP_rowE hrow (Nat.le_refl _) HWK.out
           have hop := ropen_any (c := c) hTP (by have := HKL.out; omega) w2 (Below.refl _ _)
           rw [HOP.out] at hop
           have hbx : JBox w2 w.heap.size := HZ.out.same (hb2.block _ HZ.out.lt)
           have HB := Lib.hid hbx
           have HB2 := Lib.hid (Below.on HB0.out hb2)
           have HTP := Lib.hid hTP
           clear hTP hc hcm hrow htk hbx)
        | (go_at_call 151; refine hop.mono ?_; rintro e w3 ⟨rfl, hw⟩; subst hw
           have hval := rvalue_all (2 * T.length + 1) w3 p c w3.heap.size (kt T) 0 HTP.out HK1.out (Nat.le_refl _) (by have := HKL.out; omega) (Nat.zero_le _) (by rw [List.drop_zero]; have := HKT.out; omega)
           rw [List.drop_zero, HVO.out, show ((0 : Nat) : Int) = 0 from rfl] at hval
           have HZS : Hid (w.heap.size < w3.heap.size) := Lib.hid (HB.out.lt)
           replace hval := hval.mono (fun e w' h => RVP.out h HNX.out HY.out))
        | (go_at_call 152; refine hval.mono ?_; rintro e w5 ⟨hb5, kp, kc, ip, ic, rfl, hkp, hvl⟩
           obtain ⟨V5, hV5⟩ : ∃ V, w5.alloc (.cells #[.int .i64 v.kind, .string Y, .slice kp v.keys.length kc, .slice ip v.items.length ic] 25) = V := ⟨_, rfl⟩
           have hv5 := alloc_b hV5
           have b5 := Below.on hb5 hv5
           have HB5 := Lib.hid (Below.on HB2.out b5)
           have HBX := Lib.hid (box_of hV5)
           obtain ⟨x0, x1, x2, x3⟩ := HBX.out V5 (Below.refl _ _)
           have HKP := Lib.hid (And.intro hkp hvl)
           replace HB := Lib.hid (HB.out.same (b5.block _ HB.out.lt)))
        | (refine store_val rfl (.tmp 2) (.tmp 32) rfl w.heap.size rfl (.int .i64 0) (.string ⟨#[]⟩) (.slice none 0 0) (.slice none 0 0) rfl rfl HB.out (fun V hV hgV _ => ?_)))
       refine bodyPost_ret (ret_val2 Tryz.results95 rfl rfl hV) rfl (PP.zero HPE.out ?_ rfl)
       exact below_gbz HB5.out (Nat.le_refl _) hgV
      | nil =>
       have nm : (((kt T).length : Int) != ((kt T).length : Int)) = false := by simp
       have HNX : Hid ((kt T).length - ([] : List KT).length = (kt T).length) := Lib.hid rfl
       cases hdu : v.dup with
       | true =>
        rw [hdu, if_pos rfl] at hfn
        have hpe : parV l = (jn 0, 13) := by rw [hpar]; simp [hdu]
        have HPE := Lib.hid hpe
        have HFN := Lib.hid hfn
        clear ho hpar hpe hok hwt hfn hY hln
        go_enter Tryz.func95, Tryz.ntmps95
        go_wp2_with (first
         | (go_at_call 150; refine htk.mono ?_; rintro e w2 ⟨tv, rfl, hrow, hb2⟩
            obtain ⟨p, c, rfl, hc, hcm, hTP⟩ := tokP_rowE hrow (Nat.le_refl _) HWK.out
            have hop := ropen_any (c := c) hTP (by have := HKL.out; omega) w2 (Below.refl _ _)
            rw [HOP.out] at hop
            have hbx : JBox w2 w.heap.size := HZ.out.same (hb2.block _ HZ.out.lt)
            have HB := Lib.hid hbx
            have HB2 := Lib.hid (Below.on HB0.out hb2)
            have HTP := Lib.hid hTP
            clear hTP hc hcm hrow htk hbx)
         | (go_at_call 151; refine hop.mono ?_; rintro e w3 ⟨rfl, hw⟩; subst hw
            have hval := rvalue_all (2 * T.length + 1) w3 p c w3.heap.size (kt T) 0 HTP.out HK1.out (Nat.le_refl _) (by have := HKL.out; omega) (Nat.zero_le _) (by rw [List.drop_zero]; have := HKT.out; omega)
            rw [List.drop_zero, HVO.out, show ((0 : Nat) : Int) = 0 from rfl] at hval
            have HZS : Hid (w.heap.size < w3.heap.size) := Lib.hid (HB.out.lt)
            replace hval := hval.mono (fun e w' h => RVP.out h HNX.out HY.out))
         | (go_at_call 152; refine hval.mono ?_; rintro e w5 ⟨hb5, kp, kc, ip, ic, rfl, hkp, hvl⟩
            obtain ⟨V5, hV5⟩ : ∃ V, w5.alloc (.cells #[.int .i64 v.kind, .string Y, .slice kp v.keys.length kc, .slice ip v.items.length ic] 25) = V := ⟨_, rfl⟩
            have hv5 := alloc_b hV5
            have b5 := Below.on hb5 hv5
            have HB5 := Lib.hid (Below.on HB2.out b5)
            have HBX := Lib.hid (box_of hV5)
            obtain ⟨x0, x1, x2, x3⟩ := HBX.out V5 (Below.refl _ _)
            have HKP := Lib.hid (And.intro hkp hvl)
            have hf := rfound_any hkp.ki HWT.out V5 hv5
            unfold jval at hf
            rw [HY.out, HFN.out] at hf
            replace HB := Lib.hid (HB.out.same (b5.block _ HB.out.lt)))
         | (go_at_call 149; refine hf.mono ?_; rintro e w6 ⟨rfl, hb6⟩
            obtain ⟨y0, y1, y2, y3⟩ := HBX.out w6 hb6
            have HB6 := Lib.hid (Below.on HB5.out hb6)
            have H56 := Lib.hid (Below.on hv5 hb6)
            replace HB := Lib.hid (HB.out.same (hb6.block _ HB.out.lt)))
         | (refine store_val rfl (.tmp 2) (.tmp 36) rfl w.heap.size rfl (.int .i64 0) (.string ⟨#[]⟩) (.slice none 0 0) (.slice none 0 0) rfl rfl HB.out (fun V hV hgV _ => ?_)))
        refine bodyPost_ret (ret_val2 Tryz.results95 rfl rfl hV) rfl (PP.zero HPE.out ?_ rfl)
        exact below_gbz HB6.out (Nat.le_refl _) hgV
       | false =>
        rw [hdu, if_neg (by simp)] at hfn
        have hpe : parV l = (v, 0) := by rw [hpar]; simp [hdu]
        have HPE := Lib.hid hpe
        have HFN := Lib.hid hfn
        clear ho hpar hpe hok hwt hfn hY hln
        go_enter Tryz.func95, Tryz.ntmps95
        go_wp2_with (first
         | (go_at_call 150; refine htk.mono ?_; rintro e w2 ⟨tv, rfl, hrow, hb2⟩
            obtain ⟨p, c, rfl, hc, hcm, hTP⟩ := tokP_rowE hrow (Nat.le_refl _) HWK.out
            have hop := ropen_any (c := c) hTP (by have := HKL.out; omega) w2 (Below.refl _ _)
            rw [HOP.out] at hop
            have hbx : JBox w2 w.heap.size := HZ.out.same (hb2.block _ HZ.out.lt)
            have HB := Lib.hid hbx
            have HB2 := Lib.hid (Below.on HB0.out hb2)
            have HTP := Lib.hid hTP
            clear hTP hc hcm hrow htk hbx)
         | (go_at_call 151; refine hop.mono ?_; rintro e w3 ⟨rfl, hw⟩; subst hw
            have hval := rvalue_all (2 * T.length + 1) w3 p c w3.heap.size (kt T) 0 HTP.out HK1.out (Nat.le_refl _) (by have := HKL.out; omega) (Nat.zero_le _) (by rw [List.drop_zero]; have := HKT.out; omega)
            rw [List.drop_zero, HVO.out, show ((0 : Nat) : Int) = 0 from rfl] at hval
            have HZS : Hid (w.heap.size < w3.heap.size) := Lib.hid (HB.out.lt)
            replace hval := hval.mono (fun e w' h => RVP.out h HNX.out HY.out))
         | (go_at_call 152; refine hval.mono ?_; rintro e w5 ⟨hb5, kp, kc, ip, ic, rfl, hkp, hvl⟩
            obtain ⟨V5, hV5⟩ : ∃ V, w5.alloc (.cells #[.int .i64 v.kind, .string Y, .slice kp v.keys.length kc, .slice ip v.items.length ic] 25) = V := ⟨_, rfl⟩
            have hv5 := alloc_b hV5
            have b5 := Below.on hb5 hv5
            have HB5 := Lib.hid (Below.on HB2.out b5)
            have HBX := Lib.hid (box_of hV5)
            obtain ⟨x0, x1, x2, x3⟩ := HBX.out V5 (Below.refl _ _)
            have HKP := Lib.hid (And.intro hkp hvl)
            have hf := rfound_any hkp.ki HWT.out V5 hv5
            unfold jval at hf
            rw [HY.out, HFN.out] at hf
            replace HB := Lib.hid (HB.out.same (b5.block _ HB.out.lt)))
         | (go_at_call 149; refine hf.mono ?_; rintro e w6 ⟨rfl, hb6⟩
            obtain ⟨y0, y1, y2, y3⟩ := HBX.out w6 hb6
            have HB6 := Lib.hid (Below.on HB5.out hb6)
            have H56 := Lib.hid (Below.on hv5 hb6)
            replace HB := Lib.hid (HB.out.same (hb6.block _ HB.out.lt)))
         | (refine store_val rfl (.tmp 2) (.tmp 37) rfl w.heap.size rfl (.int .i64 v.kind) (.string Y) (.slice kp v.keys.length kc) (.slice ip v.items.length ic) rfl rfl HB.out (fun V hV hgV _ => ?_)))
        refine bodyPost_ret (ret_val2 Tryz.results95 rfl rfl hV) rfl ?_
        exact PP.okv HPE.out HY.out HKP.out.1 HKP.out.2 HZS.out H56.out HB6.out hgV
 · rw [if_pos hE] at hpar
   have n1 : ((E : Int) != 0) = true := by simp; omega
   have HPE := Lib.hid hpar
   clear hpar HP hlx
   go_enter Tryz.func95, Tryz.ntmps95
   go_wp2_with (first
    | (go_at_call 150; refine htk.mono ?_; rintro e w2 ⟨tv, rfl, hrow, hb2⟩
       have hbx : JBox w2 w.heap.size := HZ.out.same (hb2.block _ HZ.out.lt)
       have HB := Lib.hid hbx
       have HB2 := Lib.hid (Below.on HB0.out hb2)
       clear hrow htk hbx)
    | (refine store_val rfl (.tmp 2) (.tmp 17) rfl w.heap.size rfl (.int .i64 0) (.string ⟨#[]⟩) (.slice none 0 0) (.slice none 0 0) rfl rfl HB.out (fun V hV hgV _ => ?_)))
   refine bodyPost_ret (ret_val2 Tryz.results95 rfl rfl hV) rfl (PP.zero HPE.out ?_ rfl)
   exact below_gbz HB2.out (Nat.le_refl _) hgV
theorem rparse_is {s : ByteArray} {w : World} (hs : s.size ≤ 5000) {v : JV} {n : Nat} {S : ByteArray} (hp : parV s.data.toList = (v, n)) (hS : (⟨v.str.toArray⟩ : ByteArray) = S) :
 Calls Tryz.prog 95 #[.string s] w fun e w' => ∃ kp kc ip ic, e = .returned (.tuple #[.agg #[.int .i64 v.kind, .string S, .slice kp v.keys.length kc, .slice ip v.items.length ic], .int .i64 (n : Nat)]) ∧ KP w' (w.heap.size ≤ ·) v kp kc ip ic ∧ v.str.length ≤ maxLen ∧ Below w.heap.size w w' := by
 refine (rparse_any s w hs).mono ?_
 rintro e w' ⟨⟨kp, kc, ip, ic, h1, h2, h3⟩, h4⟩
 rw [hp] at h1 h2 h3
 exact ⟨kp, kc, ip, ic, by rw [h1, ← hS]; rfl, h2, h3, h4⟩
end Go.Proofs.Jt
