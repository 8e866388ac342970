/- The reference's list. Printed by gen_z8.py. -/
import Derived.Test.YtphiceebhncflaaGreatDoorZ7
import Derived.Test.YtphiceebhncflaaGreatDoorVL
namespace Go.Proofs.Jt
open Go.RowKit Go.Maps Go.Lib Go.Proofs.Utf Go.Proofs

theorem wpl_append_ownL {ops : Array Oper} {rest : List Oper} {w : World} {o : Oper} {a : Act} {Q : Exit → Act → World → Prop} (hgd : o.guard = none) (s x : Operand)
    (ho : o.op = .call { callee := .builtin .append, args := #[s, x], argTypes := #[23, 23] })
    (base : Nat) (v : Value) (n : Nat) (xs : List Value) (hs : a.eval s = v) (hown : w.ownsRow base 25 4 v n xs)
    (ad : Addr) (c : Nat) (news : List Value) (hx : a.eval x = .slice (some ad) 1 c) (hl : news.length = 4) (hnews : ∀ j u, news[j]? = some u → w.cell? (ad.add j) = some u) (h1 : ∀ u ∈ news, u.oneCell' = true)
    (h63 : n ≤ 33554432) (hbase : base ≤ w.heap.size)
    (h : ∀ v' w', w'.ownsRow base 25 4 v' (n + 1) (xs ++ news) → w.grownBy w' v.ownBlock → (v'.ownBlock = v.ownBlock ∨ v'.ownBlock = some w.heap.size) → wpList Tryz.prog ops Q rest (a.put o.dst v') w') : wpList Tryz.prog ops Q (o :: rest) a w := by
  obtain ⟨i45_, hi45, hz450, hz451, hz452⟩ := info_parts info45
  exact wpList_plain hgd fun _ hK => wp_append_own_at s x 23 ho base 25 i45_ _ 4 72 Tryz.underlying23 hi45 hz450 hz451 hz452 rfl (by decide) v n xs hs hown ad 1 c news hx hl hnews h1 (by unfold maxLen; omega) (by omega) hbase fun v' w' h2 h3 h4 => hK _ _ (h v' w' h2 h3 h4)
/-- one key more -/
theorem CV.addK {w w61 w7 : World} {B vb : Nat} {k : Int} {S : ByteArray} {ks : List (List UInt8)} {L : List IC} {kv iv kv2 : Value} {u : List UInt8} (h : CV w B vb k S ks L kv iv) (g : w.grownBy w61 none) (hg : w61.grownBy w7 kv.ownBlock) (hat : kv2.ownBlock = kv.ownBlock ∨ kv2.ownBlock = some w61.heap.size)
    (hr : w7.ownsRow B 9 1 kv2 (ks.length + 1) (strC ks ++ [.string ⟨u.toArray⟩])) : CV (w7.setCell ⟨vb, 2, none⟩ kv2) B vb k S (ks ++ [u]) L kv2 iv ∧ FrP (fun b => b = vb ∨ kv.ownBlock = some b) w (w7.setCell ⟨vb, 2, none⟩ kv2) := by
  have s61 := g.size
  have s7 := hg.size
  have hvl := (Array.getElem?_eq_some_iff.1 h.hd).1
  have F7 : FrP (fun b => kv.ownBlock = some b) w w7 := (FrP.of_none g).trans (FrP.of_row hg fun k hk => hk)
  have F9 : FrP (fun b => b = vb) w7 (w7.setCell ⟨vb, 2, none⟩ kv2) := FrP.of (gb_set w7 vb 2 kv2) rfl
  have FT : FrP (fun b => b = vb ∨ kv.ownBlock = some b) w (w7.setCell ⟨vb, 2, none⟩ kv2) := (F7.mono fun _ _ h => .inr h).trans (F9.mono fun _ _ h => .inl h)
  have hd7 := (F7.block vb hvl h.nk).trans h.hd
  have hk2b : ∀ b, b < w61.heap.size → some b ≠ kv.ownBlock → some b ≠ kv2.ownBlock := fun b hb hi e => by
    rcases hat with e2 | e2
    · exact hi (e.trans e2)
    · rw [e2] at e; have := Option.some.inj e; omega
  have hnk2 : kv2.ownBlock ≠ some vb := fun e => hk2b vb (by omega) (fun e => h.nk e.symm) e.symm
  refine ⟨⟨heap_setCell_self hd7 2 kv2, ?_, ?_, hnk2, h.ni, h.vB, fun d hd => ?_⟩, FT⟩
  · rw [strC_snoc, List.length_append]
    exact row_fr hr F9 fun b hb e => hnk2 (by rw [← e]; exact hb)
  · exact row_fr h.ri FT fun b hb e => by
      rcases e with rfl | e
      · exact h.ni hb
      · exact LV.apart h.rk h.ri b e hb
  · obtain ⟨h1, h2⟩ := h.ch d hd
    refine ⟨h1.keep FT.size (fun b hb hl => FT.block b hl (fun e => ?_)) fun b hb hl => ⟨hb.1, hb.2.1, hb.2.2.1, hk2b b (by omega) hb.2.2.2⟩, h2⟩
    rcases e with e | e
    · exact hb.2.1 e
    · exact hb.2.2.2 e.symm
/-- what is left is an end of what there was -/
theorem val_suf : ∀ n : Nat, (∀ (l : List KT) (v : JV) (r : List KT), valP n l = some (v, r) → r <:+ l) ∧
    (∀ (o : Bool) (l : List KT) (ks : List (List UInt8)) (it : List JV) (v : JV) (r : List KT), itmP n o l ks it = some (v, r) → r <:+ l)
  | 0 => ⟨fun l v r h => (by rw [valP] at h; cases h), fun o l ks it v r h => by rw [itmP] at h; cases h⟩
  | n + 1 => by
    obtain ⟨ih1, ih2⟩ := val_suf n
    refine ⟨fun l v r h => ?_, fun o l ks it v r h => ?_⟩
    · cases l with
      | nil => rw [valP] at h; cases h
      | cons t l =>
        obtain ⟨k, x⟩ := t
        rw [valP_cons] at h
        have hc : l <:+ (k, x) :: l := List.suffix_cons _ _
        have hend : ∀ (e : List UInt8) (w : JV) (b : Bool), (if l.head? = some (1, e) then some (w, l.tail) else itmP n b l [] []) = some (v, r) → r <:+ (k, x) :: l := fun e w b h => by
          split at h
          · cases h
            exact (List.tail_suffix l).trans hc
          · exact (ih2 b l [] [] v r h).trans hc
        split at h
        · split at h
          · cases h; exact hc
          · split at h
            · cases h; exact hc
            · split at h
              · cases h; exact hc
              · cases h
        · split at h
          · cases h; exact hc
          · split at h
            · cases h; exact hc
            · split at h
              · exact hend _ _ _ h
              · split at h
                · exact hend _ _ _ h
                · cases h
    · rw [itmP] at h
      split at h
      · cases h
      · rename_i key r2 hkey
        have hl2 : r2 <:+ l := by
          rcases keyP_some hkey with ⟨ho, e⟩ | ⟨ho, _, e⟩
          · rw [e]; exact (List.suffix_cons _ _).trans (List.suffix_cons _ _)
          · rw [e]; exact List.suffix_refl _
        split at h
        · cases h
        · rename_i w r3 hv
          have h1 := (ih1 r2 w r3 hv).trans hl2
          split at h
          · cases h
            exact (List.tail_suffix r3).trans h1
          · split at h
            · exact ((ih2 o r3.tail _ _ v r h).trans (List.tail_suffix r3)).trans h1
            · cases h
/-- what the reference's value and list leave -/
def RVP (w : World) (N : Nat) (o : Option (JV × List KT)) (e : Ending) (w' : World) : Prop :=
  Below w.heap.size w w' ∧ match o with
    | some (v, r) => ∃ kp kc ip ic, e = .returned (.tuple #[jval v kp kc ip ic, .int .i64 ((N - r.length : Nat) : Int)]) ∧ KP w' (w.heap.size ≤ ·) v kp kc ip ic ∧ v.str.length ≤ maxLen
    | none => ∃ k S p n c p' n' c', e = .returned (.tuple #[.agg #[.int .i64 k, .string S, .slice p n c, .slice p' n' c'], .int .i64 (-1)])
theorem RVP.bad {w V : World} {N : Nat} {T : Option (JV × List KT)} (hT : T = none) (hb : Below w.heap.size w V) {k : Int} {S : ByteArray} {p p' : Option Addr} {n c n' c' : Nat} : RVP w N T (.returned (.tuple #[.agg #[.int .i64 k, .string S, .slice p n c, .slice p' n' c'], .int .i64 (-1)])) V := by
  subst hT
  exact ⟨hb, k, S, p, n, c, p', n', c', rfl⟩
theorem RVP.out {w w' : World} {N nx : Nat} {v : JV} {r : List KT} {e : Ending} {Y : ByteArray} (h : RVP w N (some (v, r)) e w') (hn : N - r.length = nx) (hY : (⟨v.str.toArray⟩ : ByteArray) = Y) :
    Below w.heap.size w w' ∧ ∃ kp kc ip ic, e = .returned (.tuple #[.agg #[.int .i64 v.kind, .string Y, .slice kp v.keys.length kc, .slice ip v.items.length ic], .int .i64 (nx : Nat)]) ∧ KP w' (w.heap.size ≤ ·) v kp kc ip ic ∧ v.str.length ≤ maxLen := by
  subst hn hY
  exact h
/-- a value's contract, at a fuel -/
def ValR (n : Nat) : Prop := ∀ (w : World) (p : Option Addr) (c R : Nat) (K : List KT) (i : Nat), TokP w R p K → (∀ y ∈ K, 1 ≤ y.1) → R ≤ w.heap.size → K.length ≤ 33554432 → i ≤ K.length → 2 * (K.drop i).length + 1 ≤ n → Calls Tryz.prog 42 #[.slice p K.length c, .int .i64 i] w (RVP w K.length (valP n (K.drop i)))
theorem tk_head {K : List KT} {j : Nat} {B : ByteArray} {b : List UInt8} {r : Bool} (hB : B.data.toList = b) (h : decide ((K.drop j).head? = some (1, b)) = r) : tkIs K j B = r := by
  unfold tkIs
  rw [hB, ← h, List.head?_drop]
theorem CV.start {w : World} {vb : Nat} {k : Int} (h : w.heap[vb]? = some (.cells #[.int .i64 k, .string ⟨#[]⟩, .slice none 0 0, .slice none 0 0] 25 (0, 0))) : CV w vb vb k ⟨#[]⟩ [] [] (.slice none 0 0) (.slice none 0 0) :=
  ⟨h, ⟨rfl, .inl ⟨rfl, rfl⟩⟩, ⟨rfl, .inl ⟨rfl, rfl⟩⟩, (fun e => by cases e), (fun e => by cases e), Nat.le_refl _, (fun c h => by cases h)⟩
theorem CV.good {w wr V : World} {N vb : Nat} {k : Int} {ks : List (List UInt8)} {L : List IC} {kp ip : Option Addr} {kc ic kn im : Nat} {T : Option (JV × List KT)} {x : Int} {r : List KT} (h : CV wr vb vb k ⟨#[]⟩ ks L (.slice kp kn kc) (.slice ip im ic)) (hvb : w.heap.size < vb) (hb : Below w.heap.size w wr) (hg : wr.grownBy V (some w.heap.size))
    (hz : L.length ≤ maxLen ∧ ks.length ≤ maxLen ∧ ∀ s ∈ ks, s.length ≤ maxLen) (hT : T = some (.mk k [] ks (L.map (·.y)), r)) (hx : x = ((N - r.length : Nat) : Int)) :
    RVP w N T (.returned (.tuple #[.agg #[.int .i64 k, .string ⟨#[]⟩, .slice kp kn kc, .slice ip im ic], .int .i64 x])) V := by
  obtain ⟨kp', kc', ip', ic', e1, e2, hk⟩ := h.made (s := []) hz
  cases e1
  cases e2
  subst hT hx
  refine ⟨below_fr hb (Nat.le_refl _) (FrP.of (P := fun b => b = w.heap.size) hg rfl) (fun b hb => by omega), kp, kc, ip, ic, ?_, ?_, Nat.zero_le _⟩
  · unfold jval
    simp only [kind_mk, str_mk, keys_mk, items_mk, List.length_map]
  · exact (hk.fr (FrP.of (P := fun b => b = w.heap.size) hg rfl) fun b hb e => by omega).keep (Nat.le_refl _) (fun _ _ _ => rfl) fun b hb _ => by omega
theorem km_snoc {ks : List (List UInt8)} {x : List UInt8} {n : Nat} (h : ∀ s ∈ ks, s.length ≤ n) (hx : x.length ≤ n) : ∀ s ∈ ks ++ [x], s.length ≤ n := fun s hs => by
  rcases List.mem_append.1 hs with hs | hs
  · exact h s hs
  · rw [List.mem_singleton.1 hs]; exact hx
theorem keyQ {x : List UInt8} {r : List KT} (h : ¬ r.head? = some (1, [58])) : keyP true ((4, x) :: r) = none := by
  unfold keyP
  rw [if_pos rfl]
  split
  · rename_i key r2 he
    cases he
    exact absurd rfl h
  · rfl
theorem keyK {k : Nat} {x : List UInt8} {r : List KT} (h : ¬ k = 4) : keyP true ((k, x) :: r) = none := by
  unfold keyP
  rw [if_pos rfl]
  split
  · rename_i key r2 he
    cases he
    exact absurd rfl h
  · rfl
set_option maxRecDepth 100000 in
set_option maxHeartbeats 8000000 in
theorem rlist_arr {n : Nat} (IH : ∀ m, m + 1 ≤ n → ValR m) {w : World} {p : Option Addr} {c R : Nat} {K : List KT} {i : Nat} (h : TokP w R p K) (hK1 : ∀ y ∈ K, 1 ≤ y.1) (hR : R ≤ w.heap.size) (hl : K.length ≤ 33554432) (hi : i ≤ K.length) (hn : 2 * (K.drop i).length + 2 ≤ n) :
    Calls Tryz.prog 73 #[.slice p K.length c, .int .i64 i, .int .i64 5, .string ⟨#[93]⟩] w (RVP w K.length (lisP n false (K.drop i))) := by
  obtain ⟨W1, hW1⟩ : ∃ W, w.alloc (.cells #[.int .i64 0, .string ⟨#[]⟩, .slice none 0 0, .slice none 0 0] 25) = W := ⟨_, rfl⟩
  obtain ⟨W, hW⟩ : ∃ W, W1.alloc (.cells #[.int .i64 5, .string ⟨#[]⟩, .slice none 0 0, .slice none 0 0] 25) = W := ⟨_, rfl⟩
  have bW1 := alloc_b hW1
  have bW := Below.on bW1 (alloc_b hW)
  have hz1 : W1.heap.size = w.heap.size + 1 := by rw [← hW1]; simp
  have hC0 : CV W (w.heap.size + 1) (w.heap.size + 1) 5 ⟨#[]⟩ [] [] (.slice none 0 0) (.slice none 0 0) := CV.start (by rw [← hz1, ← hW]; exact alloc_at W1 _)
  have hJ0 : JBox W w.heap.size := by
    have h1 : JBox W1 w.heap.size := by rw [← hW1]; exact JBox.alloc _ _ _ _ _
    exact h1.same ((alloc_b hW).block _ h1.lt)
  have HT : Hid (∀ w', Below w.heap.size w w' → TokP w' R p K) := Lib.hid fun w' hb => h.kept fun b hb2 hl => hb.block b hl
  have HIS : Hid (∀ w', Below w.heap.size w w' → ∀ (j : Nat) (B : ByteArray), j ≤ 200000000 → Calls Tryz.prog 72 #[.slice p K.length c, .int .i64 j, .string B] w' fun e w'' => e = .returned (.bool (tkIs K j B)) ∧ w'' = w') := Lib.hid fun w' hb j B hj => rtis_any h (by omega) j hj B _ rfl w' hb
  have HR := Lib.hid hR
  have HK1 := Lib.hid hK1
  have HKL := Lib.hid hl
  have HN := Lib.hid hn
  have hq := HIS.out W bW i
  obtain ⟨c0, c1, c2, c3⟩ := cells4 hC0.hd
  obtain ⟨T, hT⟩ : ∃ T, itmP n false (K.drop i) [] [] = T := ⟨_, rfl⟩
  have HT0 := Lib.hid hT
  have HBW0 := Lib.hid bW
  have HC0 := Lib.hid hC0
  have HJ0 := Lib.hid hJ0
  have hlis : lisP n false (K.drop i) = if (K.drop i).head? = some (1, endK false) then some (jn 5, (K.drop i).tail) else T := by rw [← hT]; rfl
  rw [hlis]
  subst hW1
  have HW := Lib.hid hW
  clear h hK1 hR hn hT bW1 bW hz1 hC0 hJ0 hlis hW
  by_cases hd : (K.drop i).head? = some (1, endK false)
  · rw [if_pos hd]
    have q1 : tkIs K i ⟨#[93]⟩ = true := tk_head (b := endK false) rfl (decide_eq_true hd)
    have hil : i < K.length := by
      rcases Nat.lt_or_ge i K.length with h | h
      · exact h
      · rw [List.drop_eq_nil_of_le h] at hd; cases hd
    have HJB := HJ0
    clear hd
    go_enter Tryz.func73, Tryz.ntmps73
    go_upto_region 2 with fail
    try rw [HW.out]
    go_wp2_with (first
      | (go_at_call 72; refine (hq _ (by omega)).mono ?_; rintro e1 w9 ⟨rfl, hw⟩; subst hw; rw [q1])
      | (refine store_val rfl (.tmp 8) (.tmp 19) rfl w.heap.size rfl (.int .i64 5) (.string ⟨#[]⟩) (.slice none 0 0) (.slice none 0 0) rfl rfl HJB.out (fun V hV hgV _ => ?_)))
    refine bodyPost_ret (ret_val2 Tryz.results73 rfl rfl hV) rfl ?_
    exact CV.good HC0.out (by omega) HBW0.out hgV ⟨Nat.zero_le _, Nat.zero_le _, fun s hs => by cases hs⟩ rfl (by rw [List.length_tail, List.length_drop]; omega)
  · rw [if_neg hd]
    have q1 : tkIs K i ⟨#[93]⟩ = false := tk_head (b := endK false) rfl (decide_eq_false hd)
    clear hd
    go_enter Tryz.func73, Tryz.ntmps73
    go_upto_region 2 with fail
    try rw [HW.out]
    go_wp2_with (first
      | (go_at_call 72; refine (hq _ (by omega)).mono ?_; rintro e1 w9 ⟨rfl, hw⟩; subst hw; rw [q1]))
    go_loopw [1] (fun iv wr => ∃ (m j : Nat) (ks : List (List UInt8)) (its : List JV) (L : List IC) (kv ivv : Value), iv = .int .i64 j ∧ j ≤ K.length ∧ m + 1 ≤ n ∧ 2 * (K.drop j).length + 2 ≤ m + 1 ∧ ks.length = its.length ∧ itmP (m + 1) false (K.drop j) ks its = T ∧ CV wr (w.heap.size + 1) (w.heap.size + 1) 5 ⟨#[]⟩ [] L kv ivv ∧ L.map (·.y) = its ∧ L.length ≤ j ∧ (∀ s ∈ ks, s.length ≤ 16777216) ∧ Below w.heap.size w wr ∧ JBox wr w.heap.size) (fun iv _ => K.length - (RowKit.intOf iv).toNat)
    case atStart => exact ⟨n - 1, i, [], [], [], _, _, rfl, hi, by have := HN.out; omega, by have := HN.out; omega, rfl, by have := HN.out; rw [show n - 1 + 1 = n by omega]; exact HT0.out, HC0.out, rfl, Nat.zero_le _, (fun s hs => by cases hs), HBW0.out, HJ0.out⟩
    case round =>
      clear c0 c1 c2 c3 hq q1
      obtain ⟨m, j, ks, its, L, kv, ivv, rfl, hj, hm, hfu, hks, hT1, hC, hits, hLj, hkm, hB, hJ⟩ := hrel
      have HITS := Lib.hid hits
      have HLL := Lib.hid hLj
      have HKS := Lib.hid hks
      have HKM := Lib.hid hkm
      have hT2 : (match valP m (K.drop j) with
        | none => none
        | some (v, r3) =>
          if r3.head? = some (1, endK false) then some (lv false (ks ++ [[]]) (its ++ [v]), r3.tail)
          else if r3.head? = some (1, [44]) then itmP m false r3.tail (ks ++ [[]]) (its ++ [v])
          else none) = T := by rw [← hT1, itmP_succ]; rfl
      clear hT1 hits hLj hks hkm
      have hBw := hB
      have hJw := hJ
      have hjx := hj
      have hfu2 : 2 * (K.drop j).length + 1 ≤ m := by omega
      have hval := IH m hm wr p c R K (j) (HT.out wr hBw) HK1.out (Nat.le_trans HR.out hBw.size) HKL.out hjx hfu2

      have HBW := Lib.hid hBw
      have HC := Lib.hid hC
      have HJ := Lib.hid hJw
      obtain ⟨pk, ck, epk⟩ := row_form hC.rk
      obtain ⟨pi, ci, epi⟩ := row_form hC.ri
      obtain rfl := epk
      obtain rfl := epi
      have HT2 := Lib.hid hT2
      cases hv : valP m (K.drop (j)) with
      | none =>
        rw [hv] at hval
        have hTn : T = none := by rw [← HT2.out, hv]
        have HTN := Lib.hid hTn
        clear hTn hv hC hJw hBw 
        go_wp2_with (first
          | (go_at_call 42; refine hval.mono ?_; rintro e w5 ⟨hb5, k1, S1, p1, n1, c1, p1', n1', c1', rfl⟩
             obtain ⟨V5, hV5⟩ : ∃ V, w5.alloc (.cells #[.int .i64 k1, .string S1, .slice p1 n1 c1, .slice p1' n1' c1'] 25) = V := ⟨_, rfl⟩
             have b5 := Below.on hb5 (alloc_b hV5)
             obtain ⟨o0, o1, o2, o3⟩ := cells4 (HC.out.below b5).hd
             have HJB := Lib.hid (HJ.out.same (b5.block _ HJ.out.lt)))
          | (refine store_val rfl (.tmp 8) (.tmp 64) rfl w.heap.size rfl (.int .i64 5) (.string ⟨#[]⟩) (.slice pk ([] : List (List UInt8)).length ck) (.slice pi L.length ci) rfl rfl HJB.out (fun V hV hgV _ => ?_)))
        refine bodyPost_ret (ret_val2 Tryz.results73 rfl rfl hV) rfl ?_
        exact RVP.bad HTN.out (below_fr (Below.on HBW.out b5) (Nat.le_refl _) (FrP.of (P := fun b => b = w.heap.size) hgV rfl) (fun b hb => by omega))
      | some q =>
        obtain ⟨v, r3⟩ := q
        rw [hv] at hval
        have hsuf := (val_suf m).1 _ _ _ hv
        have hln := (val_len m).1 _ _ _ hv
        obtain ⟨nx, hnx⟩ : ∃ nx, K.length - r3.length = nx := ⟨_, rfl⟩
        have hd3 : K.drop nx = r3 := by rw [← hnx]; exact (List.suffix_iff_eq_drop.1 (hsuf.trans (List.drop_suffix _ _))).symm
        have hl3 : r3.length + (j) < K.length := by rw [List.length_drop] at hln; omega
        have hn0 : ¬ ((nx : Nat) : Int) < 0 := by omega
        have hnb : nx ≤ 33554432 := by have := HKL.out; omega
        have hT3 : T = if r3.head? = some (1, endK false) then some (lv false (ks ++ [[]]) (its ++ [v]), r3.tail) else if r3.head? = some (1, [44]) then itmP m false r3.tail (ks ++ [[]]) (its ++ [v]) else none := by
          rw [← HT2.out, hv]
        obtain ⟨Y, hY⟩ : ∃ Y : ByteArray, (⟨v.str.toArray⟩ : ByteArray) = Y := ⟨_, rfl⟩
        have HY := Lib.hid hY
        have HT3 := Lib.hid hT3
        have HD3 := Lib.hid hd3
        have HL3 := Lib.hid hl3
        have HNX := Lib.hid hnx
        replace hval := hval.mono (fun e w' h => RVP.out h hnx hY)
        clear hv hsuf hln hd3 hT3 hY hC hJw hBw  hnx
        go_upto_region 12 with (first
          | (go_at_call 42; refine hval.mono ?_; rintro e w5 ⟨hb5, kp, kc, ip, ic, rfl, hkp, hvl⟩
             obtain ⟨V5, hV5⟩ : ∃ V, w5.alloc (.cells #[.int .i64 v.kind, .string Y, .slice kp v.keys.length kc, .slice ip v.items.length ic] 25) = V := ⟨_, rfl⟩
             have b5 := Below.on hb5 (alloc_b hV5)))
        have hC5 := HC.out.below b5
        obtain ⟨o0, o1, o2, o3⟩ := cells4 hC5.hd
        obtain ⟨x0, x1, x2, x3⟩ := cells4 (show V5.heap[w5.heap.size]? = some (.cells #[.int .i64 v.kind, .string Y, .slice kp v.keys.length kc, .slice ip v.items.length ic] 25 (0, 0)) by rw [← hV5]; exact alloc_at w5 _)
        have hLL : L.length ≤ 33554432 := by have := HLL.out; have := HL3.out; have := HKL.out; omega
        go_upto_region 13 with (first
          | (at_builtin; refine wpl_append_ownL rfl (.tmp 66) (.tmp 68) rfl (w.heap.size + 1) _ _ _ rfl (hC5.ri.alloc (.cells #[.int .i64 v.kind, .string Y, .slice kp v.keys.length kc, .slice ip v.items.length ic] 25)) ⟨V5.heap.size, 0, none⟩ 1 [.int .i64 v.kind, .string Y, .slice kp v.keys.length kc, .slice ip v.items.length ic] rfl rfl (new_cells _ _ _) (fun u hu => by simp only [List.mem_cons, List.not_mem_nil, or_false] at hu; rcases hu with rfl | rfl | rfl | rfl <;> rfl) hLL (by have := (Array.getElem?_eq_some_iff.1 hC5.hd).1; simp; omega) ?_
             intro iv2 w7 hi2 hgi hat2
             obtain ⟨pi2, ci2, rfl⟩ := row_form hi2
             obtain ⟨hC8, F8⟩ := CV.add (c := ⟨v, kp, kc, ip, ic⟩) HC.out (World.grownBy.refl wr none) (gb_below' hb5) (gb_below' ((alloc_b hV5).trans (((Below.refl V5.heap.size V5).alloc (Nat.le_refl _) (.cells #[.int .i64 v.kind, .string Y, .slice kp v.keys.length kc, .slice ip v.items.length ic] 25)).mono (alloc_b hV5).size))) hgi hat2 (by show w7.ownsRow _ _ _ _ _ (rowC L ++ [_, _, _, _]); rw [HY.out]; exact hi2) ⟨hkp, hvl⟩
             have F7 : FrP (fun b => (Value.slice pi L.length ci).ownBlock = some b) V5 w7 := (FrP.of_none (World.grownBy_alloc V5 (.cells #[.int .i64 v.kind, .string Y, .slice kp v.keys.length kc, .slice ip v.items.length ic] 25) none)).trans (FrP.of_row hgi fun k hk => hk)
             have hd7 := (F7.block (w.heap.size + 1) (Array.getElem?_eq_some_iff.1 hC5.hd).1 hC5.ni).trans hC5.hd
             have y3 := (cells4 hd7).2.2.2
             have yf : w7.frozen? ⟨w.heap.size + 1, 3, none⟩ = false := by simp [World.frozen?, hd7]
             clear hi2 hgi hat2 F7 hd7))
        obtain ⟨w8, hw8⟩ : ∃ w8, w7.setCell ⟨w.heap.size + 1, 3, none⟩ (.slice pi2 (L.length + 1) ci2) = w8 := ⟨_, rfl⟩
        rw [hw8] at hC8 F8 ⊢
        have hB8 : Below w.heap.size w w8 := below_fr HBW.out (Nat.le_refl _) F8 (fun b hb => by
          rcases hb with rfl | hb
          · omega
          · have := (row_lt HC.out.ri hb).1; omega)
        have HC8 := Lib.hid hC8
        obtain ⟨z0, z1, z2, z3⟩ := cells4 hC8.hd
        have HJB := Lib.hid (HJ.out.same (F8.block _ HJ.out.lt (fun e => by
          rcases e with e | e
          · omega
          · have := (row_lt HC.out.ri e).1; omega)))
        have hq := HIS.out w8 hB8 nx
        have HB8 := Lib.hid hB8
        have HZ8 : Hid ((L ++ [(⟨v, kp, kc, ip, ic⟩ : IC)]).length ≤ maxLen) := Lib.hid (by rw [List.length_append]; unfold maxLen; simp; omega)
        clear hw8 hC8 F8 hB8 o0 o1 o2 o3 x0 x1 x2 x3 hC5 hV5 b5 y3 yf hkp hvl hval
        by_cases he : r3.head? = some (1, endK false)
        · have q1 : tkIs K nx ⟨#[93]⟩ = true := tk_head (b := endK false) rfl (by rw [HD3.out]; exact decide_eq_true he)
          have hTg : T = some (lv false (ks ++ [[]]) (its ++ [v]), r3.tail) := by rw [HT3.out, if_pos he]
          have HTG := Lib.hid hTg
          have hrl : 1 ≤ r3.length := by cases r3 with | nil => exact absurd he (by simp) | cons y t => simp
          clear he hTg
          go_wp2_with (first
            | (go_at_call 72; refine (hq _ (by have := HKL.out; have := HNX.out; omega)).mono ?_; rintro e1 w9 ⟨rfl, hw⟩; subst hw; rw [q1])
            | (refine store_val rfl (.tmp 8) (.tmp 75) rfl w.heap.size rfl (.int .i64 5) (.string ⟨#[]⟩) (.slice pk ([] : List (List UInt8)).length ck) (.slice pi2 (L.length + 1) ci2) rfl rfl HJB.out (fun V hV hgV _ => ?_)))
          refine bodyPost_ret (ret_val2 Tryz.results73 rfl rfl hV) rfl ?_
          exact CV.good HC8.out (by omega) HB8.out hgV ⟨HZ8.out, Nat.zero_le _, fun s hs => by cases hs⟩ (by rw [HTG.out]; unfold lv; rw [List.map_append, HITS.out]; rfl) (by have := HNX.out; have := HL3.out; rw [List.length_tail]; omega)
        · have q1 : tkIs K nx ⟨#[93]⟩ = false := tk_head (b := endK false) rfl (by rw [HD3.out]; exact decide_eq_false he)
          by_cases hcm : r3.head? = some (1, [44])
          · have q2 : tkIs K nx ⟨#[44]⟩ = true := tk_head (b := [44]) rfl (by rw [HD3.out]; exact decide_eq_true hcm)
            have hTg : itmP m false r3.tail (ks ++ [[]]) (its ++ [v]) = T := by rw [HT3.out, if_neg he, if_pos hcm]
            have HTG := Lib.hid hTg
            have hrl : 1 ≤ r3.length := by cases r3 with | nil => exact absurd hcm (by simp) | cons y t => simp
            clear he hTg hcm
            go_wp2_with (first
              | (go_at_call 72; refine (hq _ (by have := HKL.out; have := HNX.out; omega)).mono ?_; rintro e1 w9 ⟨rfl, hw⟩; subst hw; first | rw [q1] | rw [q2]))
            go_roundw
            case rel =>
              have h3 := HL3.out
              have h4 := HNX.out
              have h5 : (K.drop (j)).length = K.length - (j) := List.length_drop
              refine ⟨m - 1, nx + 1, (ks ++ [[]]), its ++ [v], _, _, _, by go_num, by omega, by omega, ?_, ?_, ?_, HC8.out, by rw [List.map_append, HITS.out]; rfl, ?_, km_snoc HKM.out (Nat.zero_le _), HB8.out, HJB.out⟩
              · rw [List.length_drop]; omega
              · rw [List.length_append, List.length_append, HKS.out]; rfl
              · rw [← List.tail_drop, HD3.out, show m - 1 + 1 = m by omega]; exact HTG.out
              · rw [List.length_append]; have := HLL.out; simp; omega
            case measure =>
              have h3 := HL3.out
              have h4 := HNX.out
              simp [RowKit.intOf]; omega
          · have q2 : tkIs K nx ⟨#[44]⟩ = false := tk_head (b := [44]) rfl (by rw [HD3.out]; exact decide_eq_false hcm)
            have hTg : T = none := by rw [HT3.out, if_neg he, if_neg hcm]
            have HTG := Lib.hid hTg
            clear he hTg hcm
            go_wp2_with (first
              | (go_at_call 72; refine (hq _ (by have := HKL.out; have := HNX.out; omega)).mono ?_; rintro e1 w9 ⟨rfl, hw⟩; subst hw; first | rw [q1] | rw [q2])
              | (refine store_val rfl (.tmp 8) (.tmp 82) rfl w.heap.size rfl (.int .i64 5) (.string ⟨#[]⟩) (.slice pk ([] : List (List UInt8)).length ck) (.slice pi2 (L.length + 1) ci2) rfl rfl HJB.out (fun V hV hgV _ => ?_)))
            refine bodyPost_ret (ret_val2 Tryz.results73 rfl rfl hV) rfl ?_
            exact RVP.bad HTG.out (below_fr HB8.out (Nat.le_refl _) (FrP.of (P := fun b => b = w.heap.size) hgV rfl) (fun b hb => by omega))
set_option maxRecDepth 100000 in
set_option maxHeartbeats 8000000 in
theorem rlist_obj {n : Nat} (IH : ∀ m, m + 1 ≤ n → ValR m) {w : World} {p : Option Addr} {c R : Nat} {K : List KT} {i : Nat} (h : TokP w R p K) (hK1 : ∀ y ∈ K, 1 ≤ y.1) (hR : R ≤ w.heap.size) (hl : K.length ≤ 33554432) (hi : i ≤ K.length) (hn : 2 * (K.drop i).length + 2 ≤ n) :
    Calls Tryz.prog 73 #[.slice p K.length c, .int .i64 i, .int .i64 6, .string ⟨#[125]⟩] w (RVP w K.length (lisP n true (K.drop i))) := by
  obtain ⟨W1, hW1⟩ : ∃ W, w.alloc (.cells #[.int .i64 0, .string ⟨#[]⟩, .slice none 0 0, .slice none 0 0] 25) = W := ⟨_, rfl⟩
  obtain ⟨W, hW⟩ : ∃ W, W1.alloc (.cells #[.int .i64 6, .string ⟨#[]⟩, .slice none 0 0, .slice none 0 0] 25) = W := ⟨_, rfl⟩
  have bW1 := alloc_b hW1
  have bW := Below.on bW1 (alloc_b hW)
  have hz1 : W1.heap.size = w.heap.size + 1 := by rw [← hW1]; simp
  have hC0 : CV W (w.heap.size + 1) (w.heap.size + 1) 6 ⟨#[]⟩ [] [] (.slice none 0 0) (.slice none 0 0) := CV.start (by rw [← hz1, ← hW]; exact alloc_at W1 _)
  have hJ0 : JBox W w.heap.size := by
    have h1 : JBox W1 w.heap.size := by rw [← hW1]; exact JBox.alloc _ _ _ _ _
    exact h1.same ((alloc_b hW).block _ h1.lt)
  have HT : Hid (∀ w', Below w.heap.size w w' → TokP w' R p K) := Lib.hid fun w' hb => h.kept fun b hb2 hl => hb.block b hl
  have HIS : Hid (∀ w', Below w.heap.size w w' → ∀ (j : Nat) (B : ByteArray), j ≤ 200000000 → Calls Tryz.prog 72 #[.slice p K.length c, .int .i64 j, .string B] w' fun e w'' => e = .returned (.bool (tkIs K j B)) ∧ w'' = w') := Lib.hid fun w' hb j B hj => rtis_any h (by omega) j hj B _ rfl w' hb
  have HR := Lib.hid hR
  have HK1 := Lib.hid hK1
  have HKL := Lib.hid hl
  have HN := Lib.hid hn
  have hq := HIS.out W bW i
  obtain ⟨c0, c1, c2, c3⟩ := cells4 hC0.hd
  obtain ⟨T, hT⟩ : ∃ T, itmP n true (K.drop i) [] [] = T := ⟨_, rfl⟩
  have HT0 := Lib.hid hT
  have HBW0 := Lib.hid bW
  have HC0 := Lib.hid hC0
  have HJ0 := Lib.hid hJ0
  have hlis : lisP n true (K.drop i) = if (K.drop i).head? = some (1, endK true) then some (jn 6, (K.drop i).tail) else T := by rw [← hT]; rfl
  rw [hlis]
  subst hW1
  have HW := Lib.hid hW
  clear h hK1 hR hn hT bW1 bW hz1 hC0 hJ0 hlis hW
  by_cases hd : (K.drop i).head? = some (1, endK true)
  · rw [if_pos hd]
    have q1 : tkIs K i ⟨#[125]⟩ = true := tk_head (b := endK true) rfl (decide_eq_true hd)
    have hil : i < K.length := by
      rcases Nat.lt_or_ge i K.length with h | h
      · exact h
      · rw [List.drop_eq_nil_of_le h] at hd; cases hd
    have HJB := HJ0
    clear hd
    go_enter Tryz.func73, Tryz.ntmps73
    go_upto_region 2 with fail
    try rw [HW.out]
    go_wp2_with (first
      | (go_at_call 72; refine (hq _ (by omega)).mono ?_; rintro e1 w9 ⟨rfl, hw⟩; subst hw; rw [q1])
      | (refine store_val rfl (.tmp 8) (.tmp 19) rfl w.heap.size rfl (.int .i64 6) (.string ⟨#[]⟩) (.slice none 0 0) (.slice none 0 0) rfl rfl HJB.out (fun V hV hgV _ => ?_)))
    refine bodyPost_ret (ret_val2 Tryz.results73 rfl rfl hV) rfl ?_
    exact CV.good HC0.out (by omega) HBW0.out hgV ⟨Nat.zero_le _, Nat.zero_le _, fun s hs => by cases hs⟩ rfl (by rw [List.length_tail, List.length_drop]; omega)
  · rw [if_neg hd]
    have q1 : tkIs K i ⟨#[125]⟩ = false := tk_head (b := endK true) rfl (decide_eq_false hd)
    clear hd
    go_enter Tryz.func73, Tryz.ntmps73
    go_upto_region 2 with fail
    try rw [HW.out]
    go_wp2_with (first
      | (go_at_call 72; refine (hq _ (by omega)).mono ?_; rintro e1 w9 ⟨rfl, hw⟩; subst hw; rw [q1]))
    go_loopw [1] (fun iv wr => ∃ (m j : Nat) (ks : List (List UInt8)) (its : List JV) (L : List IC) (kv ivv : Value), iv = .int .i64 j ∧ j ≤ K.length ∧ m + 1 ≤ n ∧ 2 * (K.drop j).length + 2 ≤ m + 1 ∧ ks.length = its.length ∧ itmP (m + 1) true (K.drop j) ks its = T ∧ CV wr (w.heap.size + 1) (w.heap.size + 1) 6 ⟨#[]⟩ ks L kv ivv ∧ L.map (·.y) = its ∧ L.length ≤ j ∧ (∀ s ∈ ks, s.length ≤ 16777216) ∧ Below w.heap.size w wr ∧ JBox wr w.heap.size) (fun iv _ => K.length - (RowKit.intOf iv).toNat)
    case atStart => exact ⟨n - 1, i, [], [], [], _, _, rfl, hi, by have := HN.out; omega, by have := HN.out; omega, rfl, by have := HN.out; rw [show n - 1 + 1 = n by omega]; exact HT0.out, HC0.out, rfl, Nat.zero_le _, (fun s hs => by cases hs), HBW0.out, HJ0.out⟩
    case round =>
      clear c0 c1 c2 c3 hq q1
      obtain ⟨m, j, ks, its, L, kv, ivv, rfl, hj, hm, hfu, hks, hT1, hC, hits, hLj, hkm, hB, hJ⟩ := hrel
      have HITS := Lib.hid hits
      have HLL := Lib.hid hLj
      have HKS := Lib.hid hks
      have HKM := Lib.hid hkm
      clear hits hLj hks
      by_cases hjn : (j : Int) < (K.length : Int)
      · obtain ⟨y, hy⟩ : ∃ y, K[j]? = some y := ⟨_, List.getElem?_eq_getElem (by omega)⟩
        obtain ⟨k, x⟩ := y
        obtain ⟨g, o, rfl, hgR, k0, k1, hxl, hk4, -, -⟩ := HT.out wr hB j k x hy
        have hdr := drop_cons hy
        obtain ⟨U, hU⟩ : ∃ U : ByteArray, (⟨x.toArray⟩ : ByteArray) = U := ⟨_, rfl⟩
        rw [hU] at k1
        by_cases hk : k = 4
        · subst hk
          have hq := HIS.out wr hB (j + 1)
          rw [show ((j + 1 : Nat) : Int) = (j : Int) + 1 by omega] at hq
          by_cases hcol : (K.drop (j + 1)).head? = some (1, [58])
          · have q2 : tkIs K (j + 1) ⟨#[58]⟩ = true := tk_head (b := [58]) rfl (decide_eq_true hcol)
            have hdr2 : K.drop (j + 1) = (1, [58]) :: K.drop (j + 2) := by
              have : K.drop (j + 2) = (K.drop (j + 1)).tail := (List.tail_drop ..).symm
              rw [this]
              cases hh : K.drop (j + 1) with
              | nil => rw [hh] at hcol; cases hcol
              | cons y t => rw [hh] at hcol; cases hcol; rfl
            have hj2 : j + 2 ≤ K.length := by
              have h1 := congrArg List.length hdr2
              simp only [List.length_drop, List.length_cons] at h1
              omega
            have hT2 : (match valP m (K.drop (j + 2)) with
              | none => none
              | some (v, r3) =>
                if r3.head? = some (1, endK true) then some (lv true (ks ++ [x]) (its ++ [v]), r3.tail)
                else if r3.head? = some (1, [44]) then itmP m true r3.tail (ks ++ [x]) (its ++ [v])
                else none) = T := by rw [← hT1, itmP_succ, hdr, hdr2]; rfl
            have hjx := hj2
            have hfu2 : 2 * (K.drop (j + 2)).length + 1 ≤ m := by
              rw [List.length_drop] at hfu ⊢
              omega
            have HKM2 := Lib.hid (km_snoc HKM.out hxl)
            have HCV := Lib.hid hC
            obtain ⟨pk0, ck0, epk⟩ := row_form hC.rk
            obtain ⟨pi0, ci0, epi⟩ := row_form hC.ri
            obtain rfl := epk
            obtain rfl := epi
            have HKS2 : Hid ((ks ++ [x]).length ≤ 33554432) := Lib.hid (by rw [List.length_append, HKS.out, ← HITS.out, List.length_map]; have := HLL.out; simp; omega)
            have hksl : ks.length ≤ 33554432 := by have := HKS2.out; rw [List.length_append] at this; omega
            have hvlt := (Array.getElem?_eq_some_iff.1 hC.hd).1
            have hgl : g < w.heap.size := Nat.lt_of_lt_of_le hgR HR.out
            have HS7 : Hid (∀ wx, FrP (fun b => (Value.slice pk0 ks.length ck0).ownBlock = some b) wr wx → wx.cell? ⟨w.heap.size + 1, 2, none⟩ = some (.slice pk0 ks.length ck0) ∧ wx.frozen? ⟨w.heap.size + 1, 2, none⟩ = false ∧ wx.cell? ⟨g, o + j * 4 + 1, none⟩ = some (.string U)) := Lib.hid fun wx F => by
              have e1 := (F.block (w.heap.size + 1) hvlt HCV.out.nk).trans HCV.out.hd
              have e2 := F.block g (World.block_lt_of_cell? _ _ k1) (fun h => by have := (row_lt HCV.out.rk h).1; omega)
              exact ⟨by simp [World.cell?, e1], by simp [World.frozen?, e1], (World.cell?_of_block e2).trans k1⟩
            have hrk := hC.rk.drew
            obtain ⟨i9_, hi9, hz90, hz91, hz92⟩ := info_parts info9
            have HB := Lib.hid hB
            have HJ1 := Lib.hid hJ
            have HU := Lib.hid hU
            have HT2a := Lib.hid hT2
            clear hT1 hT2 hC hB hJ hdr hdr2 hcol hy hU
            go_upto_region 7 with (first | (go_at_call 72; refine (hq _ (by omega)).mono ?_; rintro e1 w9 ⟨rfl, hw⟩; rw [hw, q2]; clear hw))
            refine wp_region_late (S := fun v => v.cell? ⟨w.heap.size + 1, 2, none⟩ = some (.slice pk0 ks.length ck0) ∧ v.frozen? ⟨w.heap.size + 1, 2, none⟩ = false ∧ v.cell? ⟨g, o + j * 4 + 1, none⟩ = some (.string U)) 10 (by kernel_rfl) (HS7.out _ (FrP.refl _ _).drew) (fun hHeld => ?_)
            refine wpAnyU_take (i := 0) (oi := { dst := some 44, op := Op.fieldAddr 25 (Operand.tmp 10) 2, type := 0, pos := "ref.go:186", after := #[], guard := none }) (v := ?_) [1, 8, 9, 10] rfl (by kernel_rfl) (by kernel_rfl) (by kernel_rfl) (by kernel_rfl) (fun _ _ _ h => h) (Or.inl ⟨by rfl, ?_⟩) (by assumption) ?_
            rotate_left
            · intro w hS; obtain ⟨hS0, hS1, hS2⟩ := hS; go_simp; with_reducible rfl
            try simp only [Act.put, List.setIfInBounds_toArray, List.set_cons_zero, List.set_cons_succ]
            refine wpAnyU_take (i := 1) (oi := { dst := some 45, op := Op.load 22 (Operand.tmp 44), type := 22, pos := "ref.go:186", after := #[{ on := 0, ground := Ground.data }], guard := none }) (v := ?_) [8, 9, 10] rfl (by kernel_rfl) (by kernel_rfl) (by kernel_rfl) (by kernel_rfl) (fun _ _ _ h => h) (Or.inl ⟨by rfl, ?_⟩) (by assumption) ?_
            rotate_left
            · intro w hS; obtain ⟨hS0, hS1, hS2⟩ := hS; go_simp; with_reducible rfl
            try simp only [Act.put, List.setIfInBounds_toArray, List.set_cons_zero, List.set_cons_succ]
            refine wpAnyU_take (i := 2) (oi := { dst := some 46, op := Op.move (Operand.tmp 0), type := 68, pos := "ref.go:186", after := #[], guard := none }) (v := ?_) [4, 5, 6, 7, 8, 9, 10] rfl (by kernel_rfl) (by kernel_rfl) (by kernel_rfl) (by kernel_rfl) (fun _ _ _ h => h) (Or.inl ⟨by rfl, ?_⟩) (by assumption) ?_
            rotate_left
            · intro w hS; obtain ⟨hS0, hS1, hS2⟩ := hS; go_simp; with_reducible rfl
            try simp only [Act.put, List.setIfInBounds_toArray, List.set_cons_zero, List.set_cons_succ]
            refine wpAnyU_take (i := 3) (oi := { dst := some 47, op := Op.move (Operand.tmp 1), type := 3, pos := "ref.go:186", after := #[], guard := none }) (v := ?_) [4, 5, 6, 7, 8, 9, 10] rfl (by kernel_rfl) (by kernel_rfl) (by kernel_rfl) (by kernel_rfl) (fun _ _ _ h => h) (Or.inl ⟨by rfl, ?_⟩) (by assumption) ?_
            rotate_left
            · intro w hS; obtain ⟨hS0, hS1, hS2⟩ := hS; go_simp; with_reducible rfl
            try simp only [Act.put, List.setIfInBounds_toArray, List.set_cons_zero, List.set_cons_succ]
            refine wpAnyU_take (i := 4) (oi := { dst := some 48, op := Op.indexAddr 68 (Operand.tmp 46) (Operand.tmp 47), type := 0, pos := "ref.go:186", after := #[{ on := 2, ground := Ground.data }, { on := 3, ground := Ground.data }], guard := none }) (v := ?_) [5, 6, 7, 8, 9, 10] rfl (by kernel_rfl) (by kernel_rfl) (by kernel_rfl) (by kernel_rfl) (fun _ _ _ h => h) (Or.inl ⟨by rfl, ?_⟩) (by assumption) ?_
            rotate_left
            · intro w hS; obtain ⟨hS0, hS1, hS2⟩ := hS; go_simp; with_reducible rfl
            try simp only [Act.put, List.setIfInBounds_toArray, List.set_cons_zero, List.set_cons_succ]
            refine wpAnyU_take (i := 5) (oi := { dst := some 49, op := Op.fieldAddr 95 (Operand.tmp 48) 1, type := 0, pos := "ref.go:186", after := #[{ on := 4, ground := Ground.data }], guard := none }) (v := ?_) [6, 7, 8, 9, 10] rfl (by kernel_rfl) (by kernel_rfl) (by kernel_rfl) (by kernel_rfl) (fun _ _ _ h => h) (Or.inl ⟨by rfl, ?_⟩) (by assumption) ?_
            rotate_left
            · intro w hS; obtain ⟨hS0, hS1, hS2⟩ := hS; go_simp; with_reducible rfl
            try simp only [Act.put, List.setIfInBounds_toArray, List.set_cons_zero, List.set_cons_succ]
            refine wpAnyU_take (i := 6) (oi := { dst := some 50, op := Op.load 9 (Operand.tmp 49), type := 9, pos := "ref.go:186", after := #[{ on := 5, ground := Ground.data }], guard := none }) (v := ?_) [7, 8, 9, 10] rfl (by kernel_rfl) (by kernel_rfl) (by kernel_rfl) (by kernel_rfl) (fun _ _ _ h => h) (Or.inl ⟨by rfl, ?_⟩) (by assumption) ?_
            rotate_left
            · intro w hS; obtain ⟨hS0, hS1, hS2⟩ := hS; go_simp; with_reducible rfl
            try simp only [Act.put, List.setIfInBounds_toArray, List.set_cons_zero, List.set_cons_succ]
            refine wpAnyU_ready (rs := [7]) (by kernel_rfl) (by simp) (AllReadyU.cons (o := { dst := some 51, op := Op.buildSlice 22 1 #[(0, Operand.tmp 50)], type := 22, pos := "ref.go:186", after := #[{ on := 6, ground := Ground.data }], guard := none }) rfl (fun K hK => ?_) AllReadyU.nil)
            rw [if_pos (by rfl)]
            go_simp
            (have F6 : FrP (fun b => (Value.slice pk0 ks.length ck0).ownBlock = some b) wr (wr.drew.alloc (.cells #[.string U] 9)) := (FrP.refl _ _).drew.alloc _)
            refine hK.out _ _ (fun _ => HS7.out _ F6) (fun hS2 => ?_)
            replace hS2 := hS2 (by decide)
            clear hK K
            try simp only [Act.put, List.setIfInBounds_toArray, List.set_cons_zero, List.set_cons_succ]
            refine wpAnyU_ready (rs := [8]) (by kernel_rfl) (by simp) (AllReadyU.cons (o := { dst := some 52, op := Op.call { callee := Callee.builtin Builtin.append, args := #[Operand.tmp 45, Operand.tmp 51], argTypes := #[22, 22] }, type := 22, pos := "ref.go:186", after := #[{ on := 1, ground := Ground.data }, { on := 7, ground := Ground.data }], guard := none }) rfl (fun K hK => ?_) AllReadyU.nil)
            rw [if_pos (by rfl)]
            refine wp_append_own_at (.tmp 45) (.tmp 51) 22 rfl (w.heap.size + 1) 9 i9_ _ 1 16 Tryz.underlying22 hi9 hz90 hz91 hz92 rfl (by decide) (.slice pk0 ks.length ck0) ks.length (strC ks) rfl (hrk.alloc (.cells #[.string U] 9)) ⟨wr.drew.heap.size, 0, none⟩ 1 1 [.string U] rfl rfl (new_cells _ _ _) (fun u hu => by simp only [List.mem_cons, List.not_mem_nil, or_false] at hu; subst hu; rfl) (by unfold maxLen; omega) (by omega) (by have := (Array.getElem?_eq_some_iff.1 HCV.out.hd).1; simp; omega) ?_; intro kv2 w7 hk2 hgk hat2; have F7 := F6.trans (FrP.of_row hgk (fun k hk => hk)); obtain ⟨y1, y2, y3⟩ := HS7.out _ F7; obtain ⟨pk2, ck2, rfl⟩ := row_form hk2
            refine hK.out _ _ (fun _ => HS7.out _ F7) (fun hS2 => ?_)
            replace hS2 := hS2 (by decide)
            clear hK K
            try simp only [Act.put, List.setIfInBounds_toArray, List.set_cons_zero, List.set_cons_succ]
            refine wpAnyU_pure (i := 9) (oi := { dst := some 53, op := Op.fieldAddr 25 (Operand.tmp 10) 2, type := 0, pos := "ref.go:186", after := #[{ on := 0, ground := Ground.phase }, { on := 1, ground := Ground.phase }, { on := 2, ground := Ground.phase }, { on := 3, ground := Ground.phase }, { on := 4, ground := Ground.phase }, { on := 5, ground := Ground.phase }, { on := 6, ground := Ground.phase }, { on := 7, ground := Ground.phase }, { on := 8, ground := Ground.phase }], guard := none }) (v := ?_) rfl (by kernel_rfl) (by kernel_rfl) (by kernel_rfl) (by kernel_rfl) (fun _ _ _ h => h) (Or.inl ⟨by rfl, ?_⟩) (fun _ => by assumption) ?_
            rotate_left
            · intro w _; go_simp; with_reducible rfl
            try simp only [Act.put, List.setIfInBounds_toArray, List.set_cons_zero, List.set_cons_succ]
            refine wpAnyU_ready (rs := [10]) (by kernel_rfl) (by simp) (AllReadyU.cons (o := { dst := none, op := Op.store 22 (Operand.tmp 53) (Operand.tmp 52), type := 0, pos := "ref.go:186", after := #[{ on := 9, ground := Ground.data }, { on := 8, ground := Ground.data }, { on := 8, ground := Ground.chain }, { on := 0, ground := Ground.phase }, { on := 1, ground := Ground.phase }, { on := 2, ground := Ground.phase }, { on := 3, ground := Ground.phase }, { on := 4, ground := Ground.phase }, { on := 5, ground := Ground.phase }, { on := 6, ground := Ground.phase }, { on := 7, ground := Ground.phase }, { on := 8, ground := Ground.phase }], guard := none }) rfl (fun K hK => ?_) AllReadyU.nil)
            rw [if_pos (by rfl)]
            go_simp
            refine hK.out _ _ (fun h => absurd h (by decide)) (fun _ => ?_)
            clear hK K
            try simp only [Act.put, List.setIfInBounds_toArray, List.set_cons_zero, List.set_cons_succ]
            refine wpAnyU_done (by kernel_rfl) ?_ _
            obtain ⟨hC, F2⟩ := CV.addK (u := x) (HCV.out.below (Below.refl _ _).drew) (World.grownBy_alloc wr.drew (.cells #[.string U] 9) none) hgk hat2 (by rw [HU.out]; exact hk2)
            obtain ⟨wv, hwv2⟩ : ∃ wv, w7.setCell ⟨w.heap.size + 1, 2, none⟩ (.slice pk2 (ks.length + 1) ck2) = wv := ⟨_, rfl⟩
            rw [hwv2] at hC F2 ⊢
            have hBw : Below w.heap.size w wv := below_fr HB.out.drew (Nat.le_refl _) F2 (fun b hb => by
              rcases hb with rfl | hb
              · omega
              · have := (row_lt HCV.out.rk hb).1; omega)
            have hJw : JBox wv w.heap.size := (HJ1.out : JBox wr.drew _).same (F2.block _ HJ1.out.lt (fun e => by
              rcases e with e | e
              · omega
              · have := (row_lt HCV.out.rk e).1; omega))
            have hT2 := HT2a.out
            have hlk : (ks ++ [x]).length = ks.length + 1 := by rw [List.length_append]; rfl
            clear hwv2 F2 hk2 hgk hat2 F6 F7 y1 y2 y3 hHeld hrk HS7 hq q2 k0 k1 hksl hvlt hgl
            have hval := IH m hm wv (some ⟨g, o, none⟩) c R K (j + 2) (HT.out wv hBw) HK1.out (Nat.le_trans HR.out hBw.size) HKL.out hjx hfu2
            rw [show ((j + 2 : Nat) : Int) = (j : Int) + 2 by omega] at hval
            have HBW := Lib.hid hBw
            have HC := Lib.hid hC
            have HJ := Lib.hid hJw
            have HT2 := Lib.hid hT2
            cases hv : valP m (K.drop (j + 2)) with
            | none =>
              rw [hv] at hval
              have hTn : T = none := by rw [← HT2.out, hv]
              have HTN := Lib.hid hTn
              clear hTn hv hC hJw hBw 
              go_wp2_with (first
                | (go_at_call 42; refine hval.mono ?_; rintro e w5 ⟨hb5, k1, S1, p1, n1, c1, p1', n1', c1', rfl⟩
                   obtain ⟨V5, hV5⟩ : ∃ V, w5.alloc (.cells #[.int .i64 k1, .string S1, .slice p1 n1 c1, .slice p1' n1' c1'] 25) = V := ⟨_, rfl⟩
                   have b5 := Below.on hb5 (alloc_b hV5)
                   obtain ⟨o0, o1, o2, o3⟩ := cells4 (HC.out.below b5).hd
                   have HJB := Lib.hid (HJ.out.same (b5.block _ HJ.out.lt)))
                | (refine store_val rfl (.tmp 8) (.tmp 64) rfl w.heap.size rfl (.int .i64 6) (.string ⟨#[]⟩) (.slice pk2 (ks.length + 1) ck2) (.slice pi0 L.length ci0) rfl rfl HJB.out (fun V hV hgV _ => ?_)))
              refine bodyPost_ret (ret_val2 Tryz.results73 rfl rfl hV) rfl ?_
              exact RVP.bad HTN.out (below_fr (Below.on HBW.out b5) (Nat.le_refl _) (FrP.of (P := fun b => b = w.heap.size) hgV rfl) (fun b hb => by omega))
            | some q =>
              obtain ⟨v, r3⟩ := q
              rw [hv] at hval
              have hsuf := (val_suf m).1 _ _ _ hv
              have hln := (val_len m).1 _ _ _ hv
              obtain ⟨nx, hnx⟩ : ∃ nx, K.length - r3.length = nx := ⟨_, rfl⟩
              have hd3 : K.drop nx = r3 := by rw [← hnx]; exact (List.suffix_iff_eq_drop.1 (hsuf.trans (List.drop_suffix _ _))).symm
              have hl3 : r3.length + (j + 2) < K.length := by rw [List.length_drop] at hln; omega
              have hn0 : ¬ ((nx : Nat) : Int) < 0 := by omega
              have hnb : nx ≤ 33554432 := by have := HKL.out; omega
              have hT3 : T = if r3.head? = some (1, endK true) then some (lv true (ks ++ [x]) (its ++ [v]), r3.tail) else if r3.head? = some (1, [44]) then itmP m true r3.tail (ks ++ [x]) (its ++ [v]) else none := by
                rw [← HT2.out, hv]
              obtain ⟨Y, hY⟩ : ∃ Y : ByteArray, (⟨v.str.toArray⟩ : ByteArray) = Y := ⟨_, rfl⟩
              have HY := Lib.hid hY
              have HT3 := Lib.hid hT3
              have HD3 := Lib.hid hd3
              have HL3 := Lib.hid hl3
              have HNX := Lib.hid hnx
              replace hval := hval.mono (fun e w' h => RVP.out h hnx hY)
              clear hv hsuf hln hd3 hT3 hY hC hJw hBw  hnx
              go_upto_region 12 with (first
                | (go_at_call 42; refine hval.mono ?_; rintro e w5 ⟨hb5, kp, kc, ip, ic, rfl, hkp, hvl⟩
                   obtain ⟨V5, hV5⟩ : ∃ V, w5.alloc (.cells #[.int .i64 v.kind, .string Y, .slice kp v.keys.length kc, .slice ip v.items.length ic] 25) = V := ⟨_, rfl⟩
                   have b5 := Below.on hb5 (alloc_b hV5)))
              have hC5 := HC.out.below b5
              obtain ⟨o0, o1, o2, o3⟩ := cells4 hC5.hd
              obtain ⟨x0, x1, x2, x3⟩ := cells4 (show V5.heap[w5.heap.size]? = some (.cells #[.int .i64 v.kind, .string Y, .slice kp v.keys.length kc, .slice ip v.items.length ic] 25 (0, 0)) by rw [← hV5]; exact alloc_at w5 _)
              have hLL : L.length ≤ 33554432 := by have := HLL.out; have := HL3.out; have := HKL.out; omega
              go_upto_region 13 with (first
                | (at_builtin; refine wpl_append_ownL rfl (.tmp 66) (.tmp 68) rfl (w.heap.size + 1) _ _ _ rfl (hC5.ri.alloc (.cells #[.int .i64 v.kind, .string Y, .slice kp v.keys.length kc, .slice ip v.items.length ic] 25)) ⟨V5.heap.size, 0, none⟩ 1 [.int .i64 v.kind, .string Y, .slice kp v.keys.length kc, .slice ip v.items.length ic] rfl rfl (new_cells _ _ _) (fun u hu => by simp only [List.mem_cons, List.not_mem_nil, or_false] at hu; rcases hu with rfl | rfl | rfl | rfl <;> rfl) hLL (by have := (Array.getElem?_eq_some_iff.1 hC5.hd).1; simp; omega) ?_
                   intro iv2 w7 hi2 hgi hat2
                   obtain ⟨pi2, ci2, rfl⟩ := row_form hi2
                   obtain ⟨hC8, F8⟩ := CV.add (c := ⟨v, kp, kc, ip, ic⟩) HC.out (World.grownBy.refl wv none) (gb_below' hb5) (gb_below' ((alloc_b hV5).trans (((Below.refl V5.heap.size V5).alloc (Nat.le_refl _) (.cells #[.int .i64 v.kind, .string Y, .slice kp v.keys.length kc, .slice ip v.items.length ic] 25)).mono (alloc_b hV5).size))) hgi hat2 (by show w7.ownsRow _ _ _ _ _ (rowC L ++ [_, _, _, _]); rw [HY.out]; exact hi2) ⟨hkp, hvl⟩
                   have F7 : FrP (fun b => (Value.slice pi0 L.length ci0).ownBlock = some b) V5 w7 := (FrP.of_none (World.grownBy_alloc V5 (.cells #[.int .i64 v.kind, .string Y, .slice kp v.keys.length kc, .slice ip v.items.length ic] 25) none)).trans (FrP.of_row hgi fun k hk => hk)
                   have hd7 := (F7.block (w.heap.size + 1) (Array.getElem?_eq_some_iff.1 hC5.hd).1 hC5.ni).trans hC5.hd
                   have y3 := (cells4 hd7).2.2.2
                   have yf : w7.frozen? ⟨w.heap.size + 1, 3, none⟩ = false := by simp [World.frozen?, hd7]
                   clear hi2 hgi hat2 F7 hd7))
              obtain ⟨w8, hw8⟩ : ∃ w8, w7.setCell ⟨w.heap.size + 1, 3, none⟩ (.slice pi2 (L.length + 1) ci2) = w8 := ⟨_, rfl⟩
              rw [hw8] at hC8 F8 ⊢
              have hB8 : Below w.heap.size w w8 := below_fr HBW.out (Nat.le_refl _) F8 (fun b hb => by
                rcases hb with rfl | hb
                · omega
                · have := (row_lt HC.out.ri hb).1; omega)
              have HC8 := Lib.hid hC8
              obtain ⟨z0, z1, z2, z3⟩ := cells4 hC8.hd
              have HJB := Lib.hid (HJ.out.same (F8.block _ HJ.out.lt (fun e => by
                rcases e with e | e
                · omega
                · have := (row_lt HC.out.ri e).1; omega)))
              have hq := HIS.out w8 hB8 nx
              have HB8 := Lib.hid hB8
              have HZ8 : Hid ((L ++ [(⟨v, kp, kc, ip, ic⟩ : IC)]).length ≤ maxLen) := Lib.hid (by rw [List.length_append]; unfold maxLen; simp; omega)
              clear hw8 hC8 F8 hB8 o0 o1 o2 o3 x0 x1 x2 x3 hC5 hV5 b5 y3 yf hkp hvl hval
              by_cases he : r3.head? = some (1, endK true)
              · have q1 : tkIs K nx ⟨#[125]⟩ = true := tk_head (b := endK true) rfl (by rw [HD3.out]; exact decide_eq_true he)
                have hTg : T = some (lv true (ks ++ [x]) (its ++ [v]), r3.tail) := by rw [HT3.out, if_pos he]
                have HTG := Lib.hid hTg
                have hrl : 1 ≤ r3.length := by cases r3 with | nil => exact absurd he (by simp) | cons y t => simp
                clear he hTg
                go_wp2_with (first
                  | (go_at_call 72; refine (hq _ (by have := HKL.out; have := HNX.out; omega)).mono ?_; rintro e1 w9 ⟨rfl, hw⟩; subst hw; rw [q1])
                  | (refine store_val rfl (.tmp 8) (.tmp 75) rfl w.heap.size rfl (.int .i64 6) (.string ⟨#[]⟩) (.slice pk2 (ks.length + 1) ck2) (.slice pi2 (L.length + 1) ci2) rfl rfl HJB.out (fun V hV hgV _ => ?_)))
                refine bodyPost_ret (ret_val2 Tryz.results73 rfl rfl hV) rfl ?_
                exact CV.good HC8.out (by omega) HB8.out hgV ⟨HZ8.out, by have := HKS2.out; unfold maxLen; omega, fun s hs => Nat.le_trans (HKM2.out s hs) (by unfold maxLen; omega)⟩ (by rw [HTG.out]; unfold lv; rw [List.map_append, HITS.out]; rfl) (by have := HNX.out; have := HL3.out; rw [List.length_tail]; omega)
              · have q1 : tkIs K nx ⟨#[125]⟩ = false := tk_head (b := endK true) rfl (by rw [HD3.out]; exact decide_eq_false he)
                by_cases hcm : r3.head? = some (1, [44])
                · have q2 : tkIs K nx ⟨#[44]⟩ = true := tk_head (b := [44]) rfl (by rw [HD3.out]; exact decide_eq_true hcm)
                  have hTg : itmP m true r3.tail (ks ++ [x]) (its ++ [v]) = T := by rw [HT3.out, if_neg he, if_pos hcm]
                  have HTG := Lib.hid hTg
                  have hrl : 1 ≤ r3.length := by cases r3 with | nil => exact absurd hcm (by simp) | cons y t => simp
                  clear he hTg hcm
                  go_wp2_with (first
                    | (go_at_call 72; refine (hq _ (by have := HKL.out; have := HNX.out; omega)).mono ?_; rintro e1 w9 ⟨rfl, hw⟩; subst hw; first | rw [q1] | rw [q2]))
                  go_roundw
                  case rel =>
                    have h3 := HL3.out
                    have h4 := HNX.out
                    have h5 : (K.drop (j + 2)).length = K.length - (j + 2) := List.length_drop
                    refine ⟨m - 1, nx + 1, (ks ++ [x]), its ++ [v], _, _, _, by go_num, by omega, by omega, ?_, ?_, ?_, HC8.out, by rw [List.map_append, HITS.out]; rfl, ?_, HKM2.out, HB8.out, HJB.out⟩
                    · rw [List.length_drop]; omega
                    · rw [List.length_append, List.length_append, HKS.out]; rfl
                    · rw [← List.tail_drop, HD3.out, show m - 1 + 1 = m by omega]; exact HTG.out
                    · rw [List.length_append]; have := HLL.out; simp; omega
                  case measure =>
                    have h3 := HL3.out
                    have h4 := HNX.out
                    simp [RowKit.intOf]; omega
                · have q2 : tkIs K nx ⟨#[44]⟩ = false := tk_head (b := [44]) rfl (by rw [HD3.out]; exact decide_eq_false hcm)
                  have hTg : T = none := by rw [HT3.out, if_neg he, if_neg hcm]
                  have HTG := Lib.hid hTg
                  clear he hTg hcm
                  go_wp2_with (first
                    | (go_at_call 72; refine (hq _ (by have := HKL.out; have := HNX.out; omega)).mono ?_; rintro e1 w9 ⟨rfl, hw⟩; subst hw; first | rw [q1] | rw [q2])
                    | (refine store_val rfl (.tmp 8) (.tmp 82) rfl w.heap.size rfl (.int .i64 6) (.string ⟨#[]⟩) (.slice pk2 (ks.length + 1) ck2) (.slice pi2 (L.length + 1) ci2) rfl rfl HJB.out (fun V hV hgV _ => ?_)))
                  refine bodyPost_ret (ret_val2 Tryz.results73 rfl rfl hV) rfl ?_
                  exact RVP.bad HTG.out (below_fr HB8.out (Nat.le_refl _) (FrP.of (P := fun b => b = w.heap.size) hgV rfl) (fun b hb => by omega))
          · have q2 : tkIs K (j + 1) ⟨#[58]⟩ = false := tk_head (b := [58]) rfl (decide_eq_false hcol)
            obtain ⟨pk0, ck0, epk⟩ := row_form hC.rk
            obtain ⟨pi0, ci0, epi⟩ := row_form hC.ri
            obtain rfl := epk
            obtain rfl := epi
            obtain ⟨o0, o1, o2, o3⟩ := cells4 hC.hd
            have HB := Lib.hid hB
            have HJB := Lib.hid hJ
            have hTn : T = none := by rw [← hT1, itmP_succ]; rw [hdr, keyQ hcol]
            have HTN := Lib.hid hTn
            clear hTn hT1 hC hB hJ
            go_wp2_with (first
              | (go_at_call 72; refine (hq _ (by omega)).mono ?_; rintro e1 w9 ⟨rfl, hw⟩; subst hw; rw [q2])
              | (refine store_val rfl (.tmp 8) (.tmp 43) rfl w.heap.size rfl (.int .i64 6) (.string ⟨#[]⟩) (.slice pk0 ks.length ck0) (.slice pi0 L.length ci0) rfl rfl HJB.out (fun V hV hgV _ => ?_)))
            refine bodyPost_ret (ret_val2 Tryz.results73 rfl rfl hV) rfl ?_
            exact RVP.bad HTN.out (below_fr HB.out (Nat.le_refl _) (FrP.of (P := fun b => b = w.heap.size) hgV rfl) (fun b hb => by omega))
        · have hkk : ((k : Int) != 4) = true := by simp; omega
          obtain ⟨pk0, ck0, epk⟩ := row_form hC.rk
          obtain ⟨pi0, ci0, epi⟩ := row_form hC.ri
          obtain rfl := epk
          obtain rfl := epi
          obtain ⟨o0, o1, o2, o3⟩ := cells4 hC.hd
          have HB := Lib.hid hB
          have HJB := Lib.hid hJ
          have hTn : T = none := by rw [← hT1, itmP_succ]; rw [hdr]; rw [keyK hk]
          have HTN := Lib.hid hTn
          clear hTn hT1 hC hB hJ
          go_wp2_with (first
            | (refine store_val rfl (.tmp 8) (.tmp 43) rfl w.heap.size rfl (.int .i64 6) (.string ⟨#[]⟩) (.slice pk0 ks.length ck0) (.slice pi0 L.length ci0) rfl rfl HJB.out (fun V hV hgV _ => ?_)))
          refine bodyPost_ret (ret_val2 Tryz.results73 rfl rfl hV) rfl ?_
          exact RVP.bad HTN.out (below_fr HB.out (Nat.le_refl _) (FrP.of (P := fun b => b = w.heap.size) hgV rfl) (fun b hb => by omega))
      · have hge : ¬ (j : Int) < (K.length : Int) := hjn
        have hge2 : (j : Int) ≥ (K.length : Int) := by omega
        obtain ⟨pk0, ck0, epk⟩ := row_form hC.rk
        obtain ⟨pi0, ci0, epi⟩ := row_form hC.ri
        obtain rfl := epk
        obtain rfl := epi
        obtain ⟨o0, o1, o2, o3⟩ := cells4 hC.hd
        have HB := Lib.hid hB
        have HJB := Lib.hid hJ
        have hTn : T = none := by rw [← hT1, itmP_succ]; rw [List.drop_eq_nil_of_le (by omega)]; rfl
        have HTN := Lib.hid hTn
        clear hTn hT1 hC hB hJ
        go_wp2_with (first
          | (refine store_val rfl (.tmp 8) (.tmp 43) rfl w.heap.size rfl (.int .i64 6) (.string ⟨#[]⟩) (.slice pk0 ks.length ck0) (.slice pi0 L.length ci0) rfl rfl HJB.out (fun V hV hgV _ => ?_)))
        refine bodyPost_ret (ret_val2 Tryz.results73 rfl rfl hV) rfl ?_
        exact RVP.bad HTN.out (below_fr HB.out (Nat.le_refl _) (FrP.of (P := fun b => b = w.heap.size) hgV rfl) (fun b hb => by omega))
end Go.Proofs.Jt
