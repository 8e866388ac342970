/- Merged texts: P4, P5, P6. -/
import Derived.Test.YtaiaiiepbpbmmaaGreatDoorP3
import Derived.Test.YtaiaiiepbpbmmaaGreatDoorA1
import Derived.Lib.AppendIntMem
import Derived.Laws.ResultCell
/- P4: rpc's objects in memory: add, object, message; text, number, an id's value; may. -/
namespace Go.Proofs.Rp
open Go.RowKit Go.Maps Go.Lib Go.Proofs.Utf Go.Proofs.Jt Go.Proofs

/-- an object that is being made: its box, the box of the pointer to it, its rows (in blocks from lo on) -/
structure OP (n0 : Nat) (w : World) (lo tb ob : Nat) (ks : List (List UInt8)) (L : List IC) (kp : Option Addr) (kc : Nat) (ip : Option Addr) (ic : Nat) : Prop where
 ht : w.heap[tb]? = some (.cells #[.pointer (some ⟨ob, 0, none⟩)] 155 (0, 0))
 ho : w.heap[ob]? = some (.cells #[.int .i64 6, .string ⟨#[]⟩, .slice kp ks.length kc, .slice ip L.length ic] 25 (0, 0))
 rk : w.ownsRow lo 9 1 (.slice kp ks.length kc) ks.length (strC ks)
 ri : w.ownsRow lo 25 4 (.slice ip L.length ic) L.length (rowC L)
 no : n0 ≤ ob
 nt : n0 ≤ tb
 tne : ob ≠ tb
 tl : tb < lo
 ol : ob < lo
 sz : lo ≤ w.heap.size
theorem OP.below {n0 : Nat} {w w' : World} {lo tb ob : Nat} {ks : List (List UInt8)} {L : List IC} {kp : Option Addr} {kc : Nat} {ip : Option Addr} {ic : Nat} (h : OP n0 w lo tb ob ks L kp kc ip ic) (hb : Below w.heap.size w w') : OP n0 w' lo tb ob ks L kp kc ip ic :=
 ⟨(hb.block _ (ltS h.ht)).trans h.ht, (hb.block _ (ltS h.ho)).trans h.ho, row_fr h.rk (FrP.of_none (P := fun _ => False) (gb_below' hb)) (fun _ _ h => h), row_fr h.ri (FrP.of_none (P := fun _ => False) (gb_below' hb)) (fun _ _ h => h), h.no, h.nt, h.tne, h.tl, h.ol, Nat.le_trans h.sz hb.size⟩
/-- the value that it is -/
theorem OP.ki {n0 : Nat} {w : World} {lo tb ob : Nat} {ks : List (List UInt8)} {L : List IC} {kp : Option Addr} {kc : Nat} {ip : Option Addr} {ic : Nat} (h : OP n0 w lo tb ob ks L kp kc ip ic) (hc : ∀ c ∈ L, KI w c.y c.kp c.kc c.ip c.ic ∧ c.y.str.length ≤ maxLen) (hz : L.length ≤ maxLen ∧ ks.length ≤ maxLen ∧ ∀ s ∈ ks, s.length ≤ maxLen) :
 KI w (.mk 6 [] ks (L.map (·.y))) kp kc ip ic := by
 obtain ⟨kp', kc', e, hs, _⟩ := strs_of_row h.rk
 cases e
 refine KI.rows hs hz fun i c hi => ?_
 obtain ⟨h1, h2⟩ := hc c (List.mem_of_getElem? hi)
 refine ⟨?_, h1, h2⟩
 rcases h.ri.2 with ⟨_, hn⟩ | ⟨g, cap, cur, e, h3, h4, h5, h6⟩
 · have := (List.getElem?_eq_some_iff.1 hi).1
   omega
 · cases e
   refine ⟨_, rfl, ?_⟩
   have hcell : ∀ j u, c.cells[j]? = some u → w.cell? ⟨g, i * 4 + j, none⟩ = some u := fun j u hu => by
    have hj : j < 4 := by
     have := (List.getElem?_eq_some_iff.1 hu).1
     simpa [IC.cells] using this
    have := h.ri.cells (g := g) rfl (i * 4 + j) u (by rw [rowC_get L i c hi j hj]; exact hu)
    rwa [add0] at this
   rw [add0]
   exact ⟨hcell 0 _ rfl, hcell 1 _ rfl, hcell 2 _ rfl, hcell 3 _ rfl, (ltS h4)⟩
set_option maxRecDepth 100000 in
set_option maxHeartbeats 4000000 in
theorem add_any {n0 : Nat} {w : World} {lo tb ob : Nat} {ks : List (List UInt8)} {L : List IC} {kp : Option Addr} {kc : Nat} {ip : Option Addr} {ic : Nat} (h : OP n0 w lo tb ob ks L kp kc ip ic) (K : ByteArray) (c : IC) (Y : ByteArray) (hY : (⟨c.y.str.toArray⟩ : ByteArray) = Y) (hn : ks.length ≤ 1000) (hm : L.length ≤ 1000) :
 Calls Tryz.prog 154 #[.string K, .agg #[.int .i64 c.y.kind, .string Y, .slice c.kp c.y.keys.length c.kc, .slice c.ip c.y.items.length c.ic], .pointer (some ⟨tb, 0, none⟩)] w fun e w' => e = .returned (.tuple #[]) ∧ ∃ kp kc ip ic, OP n0 w' lo tb ob (ks ++ [K.data.toList]) (L ++ [c]) kp kc ip ic ∧ Below n0 w w' := by
 obtain ⟨W, hW⟩ : ∃ W, w.alloc (.cells #[.int .i64 c.y.kind, .string Y, .slice c.kp c.y.keys.length c.kc, .slice c.ip c.y.items.length c.ic] 25) = W := ⟨_, rfl⟩
 have bW := alloc_b hW
 have hzW : W.heap.size = w.heap.size + 1 := by rw [← hW]; simp
 have h2 := h.below bW
 have hpb : W.heap[w.heap.size]? = some (.cells #[.int .i64 c.y.kind, .string Y, .slice c.kp c.y.keys.length c.kc, .slice c.ip c.y.items.length c.ic] 25 (0, 0)) := by rw [← hW]; exact alloc_at w _
 have hsz := h.sz
 have htl := h.tl
 have hol := h.ol
 have hno := h.no
 have hnt := h.nt
 have hto := h.tne
 have hkb := fun b hb => (h.rk.lt b hb).2
 have hib := fun b hb => (h.ri.lt b hb).2
 have HBW := Lib.hid bW
 have HH := Lib.hid h2
 have HP := Lib.hid hpb
 clear h h2 hpb bW
 go_enter Tryz.func154, Tryz.ntmps154
 go_upto_region 1 with fail
 refine Code.wp_mono ?_ (add_r1 K c Y n0 tb ob w.heap.size lo ks.length L.length (strC ks) (rowC L) kp kc ip ic W _ _ _ _ _ _ _ _ _ _ _ _ _ _ _ _ _ _ _ _ _ ⟨HH.out.ht, HH.out.ho, HP.out⟩ HH.out.rk HH.out.ri hkb hib (by omega) (by omega) (by omega) hsz htl hol hno hnt hto)
 intro e a' w3 h
 cases e with
 | normal =>
  obtain ⟨g7, g14, kp2, kc2, ip2, ic2, hT, hO, hB, hz, rk, ri, rfl⟩ := h
  have H := Lib.hid (And.intro hT (And.intro hO (And.intro rk (And.intro ri (And.intro hB hz)))))
  clear hT hO rk ri hB hz
  go_wp2_with fail
  go_end0
  obtain ⟨hT, hO, rk, ri, hB, hz⟩ := H.out
  refine ⟨rfl, kp2, kc2, ip2, ic2, ⟨hT, ?_, ?_, ?_, hno, hnt, hto, htl, hol, by omega⟩, HBW.out.mono (by omega) |>.trans hB⟩
  · rw [List.length_append, List.length_append]; exact hO
  · rw [List.length_append, strC_snoc, arr_back2]; exact rk
  · rw [List.length_append, rowC_snoc]
    have : c.cells = [.int .i64 c.y.kind, .string Y, .slice c.kp c.y.keys.length c.kc, .slice c.ip c.y.items.length c.ic] := by rw [← hY]; rfl
    rw [this]
    exact ri
 | exit _ => exact h.elim
 | goto _ => exact h.elim
 | ret => exact h.elim
 | panic _ => exact h.elim
 | outgrown => exact h.elim
/-- a value without keys and items -/
def leafC (y : JV) : IC := ⟨y, none, 0, none, 0⟩
theorem add_leaf {n0 : Nat} {w : World} {lo tb ob : Nat} {ks : List (List UInt8)} {L : List IC} {kp : Option Addr} {kc : Nat} {ip : Option Addr} {ic : Nat} (h : OP n0 w lo tb ob ks L kp kc ip ic) (K : ByteArray) (y : JV) (Y : ByteArray) (hY : (⟨y.str.toArray⟩ : ByteArray) = Y) (hk : y.keys = []) (hi : y.items = []) (hn : ks.length ≤ 1000) (hm : L.length ≤ 1000) :
 Calls Tryz.prog 154 #[.string K, .agg #[.int .i64 y.kind, .string Y, .slice none 0 0, .slice none 0 0], .pointer (some ⟨tb, 0, none⟩)] w fun e w' => e = .returned (.tuple #[]) ∧ ∃ kp kc ip ic, OP n0 w' lo tb ob (ks ++ [K.data.toList]) (L ++ [leafC y]) kp kc ip ic ∧ Below n0 w w' := by
 have := add_any h K (leafC y) Y hY hn hm
 unfold leafC at this ⊢
 dsimp only at this
 rw [hk, hi] at this
 exact this
theorem ki_leaf {w : World} {y : JV} (hk : y.keys = []) (hi : y.items = []) : KI w y none 0 none 0 := by
 obtain ⟨k, s, ks, it⟩ := y
 obtain rfl : ks = [] := hk
 obtain rfl : it = [] := hi
 exact (KP.leaf w (fun _ => True) _ _).ki
set_option maxRecDepth 100000 in
theorem object_new (w : World) : Calls Tryz.prog 107 #[] w fun e w' => ∃ lo tb ob, e = .returned (.tuple #[.pointer (some ⟨ob, 0, none⟩), .func (.func 154) #[] #[.pointer (some ⟨tb, 0, none⟩)]]) ∧ OP w.heap.size w' lo tb ob [] [] none 0 none 0 ∧ Below w.heap.size w w' := by
 obtain ⟨W1, hW1⟩ : ∃ W, w.alloc (.cells #[.int .i64 6, .string ⟨#[]⟩, .slice none 0 0, .slice none 0 0] 25) = W := ⟨_, rfl⟩
 obtain ⟨W2, hW2⟩ : ∃ W, W1.alloc (.cells #[.pointer (some ⟨w.heap.size, 0, none⟩)] 155) = W := ⟨_, rfl⟩
 have b1 := alloc_b hW1
 have b2 := alloc_b hW2
 have z1 : W1.heap.size = w.heap.size + 1 := by rw [← hW1]; simp
 have z2 : W2.heap.size = w.heap.size + 2 := by rw [← hW2]; simp; omega
 have h1 : W1.heap[w.heap.size]? = some (.cells #[.int .i64 6, .string ⟨#[]⟩, .slice none 0 0, .slice none 0 0] 25 (0, 0)) := by rw [← hW1]; exact alloc_at w _
 have h2 : W2.heap[w.heap.size + 1]? = some (.cells #[.pointer (some ⟨w.heap.size, 0, none⟩)] 155 (0, 0)) := by rw [← hW2, ← z1]; exact alloc_at W1 _
 have hO := (b2.block w.heap.size (by omega)).trans h1
 have HOP : Hid (OP w.heap.size W2 (w.heap.size + 2) (w.heap.size + 1) w.heap.size [] [] none 0 none 0) := Lib.hid ⟨h2, hO, ⟨rfl, .inl ⟨rfl, rfl⟩⟩, ⟨rfl, .inl ⟨rfl, rfl⟩⟩, Nat.le_refl _, by omega, by omega, by omega, by omega, by omega⟩
 have HB := Lib.hid (Below.on b1 b2)
 have q1 := box_cell h2
 clear h1 hO b1 b2 h2 z2
 go_enter Tryz.func107, Tryz.ntmps107
 go_wp2_with fail
 go_ret2
 exact ⟨_, _, _, rfl, HOP.out, HB.out⟩
set_option maxRecDepth 100000 in
theorem text_any (S : ByteArray) (w : World) : Calls Tryz.prog 101 #[.string S] w fun e w' => e = .returned (.agg #[.int .i64 4, .string S, .slice none 0 0, .slice none 0 0]) ∧ Below w.heap.size w w' := by
 obtain ⟨W, hW⟩ : ∃ W, w.alloc (.cells #[.int .i64 0, .string ⟨#[]⟩, .slice none 0 0, .slice none 0 0] 25) = W := ⟨_, rfl⟩
 have bW := alloc_b hW
 have hJ : JBox W w.heap.size := by rw [← hW]; exact JBox.alloc _ _ _ _ _
 have HJ := Lib.hid hJ
 have HB := Lib.hid bW
 clear bW hJ
 go_enter Tryz.func101, Tryz.ntmps101
 go_wp2_with (first | (refine store_val rfl (.tmp 2) (.tmp 4) rfl w.heap.size rfl (.int .i64 4) (.string S) (.slice none 0 0) (.slice none 0 0) rfl rfl HJ.out (fun V hV hgV _ => ?_)))
 refine bodyPost_ret (ret_val Tryz.results101 rfl hV) rfl ?_
 exact ⟨rfl, below_gbz HB.out (Nat.le_refl _) hgV⟩
/-- the powers of ten -/
def TenV (w : World) : Prop := Lib.TabIs Tryz.prog w "internal/strconv.uint64pow10" .u64 Lib.pow10Tab
theorem TenV.below {w w' : World} (h : TenV w) (hb : Below w.heap.size w w') : TenV w' := by
 unfold TenV Lib.TabIs at h ⊢
 exact Go.Joins.var_stays (g := 7) (by kernel_rfl) h hb (Nat.le_refl _)
set_option maxRecDepth 100000 in
theorem number_any (n : Int) (h0 : -9223372036854775808 ≤ n) (h1 : n ≤ 9223372036854775807) (I : ByteArray) (hI : (⟨(itoa n).toArray⟩ : ByteArray) = I) (w : World) (hT : TenV w) : Calls Tryz.prog 108 #[.int .i64 n] w fun e w' => e = .returned (.agg #[.int .i64 3, .string I, .slice none 0 0, .slice none 0 0]) ∧ Below w.heap.size w w' := by
 obtain ⟨W, hW⟩ : ∃ W, w.alloc (.cells #[.int .i64 0, .string ⟨#[]⟩, .slice none 0 0, .slice none 0 0] 25) = W := ⟨_, rfl⟩
 have bW := alloc_b hW
 have hJ : JBox W w.heap.size := by rw [← hW]; exact JBox.alloc _ _ _ _ _
 have hf : Calls Tryz.prog 127 #[.int .i64 n, .int .i64 10] W fun e w' => e = .returned (.string I) ∧ Below W.heap.size W w' := by
  refine (Tryz.strconv_FormatInt_10 n h0 h1 W (hT.below bW)).mono ?_
  rintro e w' ⟨rfl, k, os, rfl⟩
  exact ⟨by rw [hI], below_grow _ _ (Nat.le_refl _) k os⟩
 have HJ := Lib.hid hJ
 have HB := Lib.hid bW
 clear bW hJ hI hT
 go_enter Tryz.func108, Tryz.ntmps108
 go_wp2_with (first
  | (go_at_call 127; refine hf.mono ?_; rintro e w1 ⟨rfl, hb1⟩; have hj1 : JBox w1 w.heap.size := HJ.out.same (hb1.block _ HJ.out.lt); have HJ1 := Lib.hid hj1; clear hj1)
  | (refine store_val rfl (.tmp 2) (.tmp 5) rfl w.heap.size rfl (.int .i64 3) (.string I) (.slice none 0 0) (.slice none 0 0) rfl rfl HJ1.out (fun V hV hgV _ => ?_)))
 refine bodyPost_ret (ret_val Tryz.results108 rfl hV) rfl ?_
 exact ⟨rfl, below_gbz (Below.on HB.out hb1) (Nat.le_refl _) hgV⟩
end Go.Proofs.Rp
/- P5: rpc: ids: may, value, idOf; params; message; Result. -/
namespace Go.Proofs.Rp
open Go.RowKit Go.Maps Go.Lib Go.Proofs.Utf Go.Proofs.Jt Go.Proofs

/-- a box of an id -/
def IBox (w : World) (z : Nat) : Prop := ∃ a b c, w.heap[z]? = some (.cells #[a, b, c] 57 (0, 0))
theorem IBox.same {w w' : World} {z : Nat} (h : IBox w z) (he : w'.heap[z]? = w.heap[z]?) : IBox w' z := by
 obtain ⟨a, b, c, h⟩ := h
 exact ⟨a, b, c, he.trans h⟩
theorem IBox.lt {w : World} {z : Nat} (h : IBox w z) : z < w.heap.size := by
 obtain ⟨a, b, c, h⟩ := h
 exact (ltS h)
theorem IBox.alloc (w : World) (a b c : Value) : IBox (w.alloc (.cells #[a, b, c] 57)) w.heap.size := ⟨a, b, c, World.alloc_heap_new w _⟩
theorem store_id {ops : Array Oper} {rest : List Oper} {op : Oper} {a : Act} {w : World} {Q : Exit → Act → World → Prop} (hgd : op.guard = none) (x y : Operand) (ho : op.op = .store 57 x y) (z : Nat) (hx : a.eval x = .pointer (some ⟨z, 0, none⟩))
 (v0 v1 v2 : Value) (hy : a.eval y = .agg #[v0, v1, v2]) (h1 : (v0.oneCell' && v1.oneCell' && v2.oneCell') = true) (hz : IBox w z)
 (h : ∀ W, W.heap[z]? = some (.cells #[v0, v1, v2] 57 (0, 0)) → w.grownBy W (some z) → W.heap.size = w.heap.size → wpList Tryz.prog ops Q rest (a.put op.dst undef) W) : wpList Tryz.prog ops Q (op :: rest) a w := by
 obtain ⟨a0, a1, a2, hz⟩ := hz
 refine wpList_store_row hgd 57 x y ho z #[v0, v1, v2] hx hy 57 #[a0, a1, a2] hz (by kernel_rfl) rfl (by simpa [Bool.and_assoc] using h1) ?_
 exact h _ (heap_setRow_self hz) (gb_setRow _ _ _) (by show (w.heap.modify z _).size = _; rw [Array.size_modify])
theorem ret_id2 {fn : Func} {p u : Tmp} (h : fn.results = #[.cell p 57, .tmp u]) {tmps : Array Value} {w : World} {g : Nat} (hp : tmps.getD p undef = .pointer (some ⟨g, 0, none⟩)) {v0 v1 v2 e : Value} (he : tmps.getD u undef = e) (hg : w.heap[g]? = some (.cells #[v0, v1, v2] 57 (0, 0))) :
 (results fn tmps).run Tryz.prog w = .ok (.tuple #[.agg #[v0, v1, v2], e]) w := by
 rw [results_cell_tmp h, hp, he]
 have hl := run_loadVar_row (P := Tryz.prog) w g 57 57 #[v0, v1, v2] (0, 0) _ hg Tryz.underlying57 rfl (by kernel_rfl)
 simp only [asAddr, Sem.run_pure, Result.andThen_ok, hl]
theorem box3_of {w W : World} {a b c : Value} {t : TypeId} (hW : w.alloc (.cells #[a, b, c] t) = W) : ∀ V, Below W.heap.size W V → V.cell? ⟨w.heap.size, 0, none⟩ = some a ∧ V.cell? ⟨w.heap.size, 1, none⟩ = some b ∧ V.cell? ⟨w.heap.size, 2, none⟩ = some c := fun V hb => by
 have h1 : W.heap[w.heap.size]? = some (.cells #[a, b, c] t) := by rw [← hW]; exact World.alloc_heap_new w _
 have h2 := (hb.block _ (ltS h1)).trans h1
 refine ⟨?_, ?_, ?_⟩ <;> simp [World.cell?, h2]
theorem nilS {S : ByteArray} {s : List UInt8} (h : (⟨s.toArray⟩ : ByteArray) = S) : (s = [] ∧ S = ⟨#[]⟩) ∨ (¬ s = [] ∧ ¬ S.toList = [] ∧ S.toList.isEmpty = false) := by
 have hSl : S.data.toList = s := by rw [← h]
 by_cases e : s = []
 · exact .inl ⟨e, by rw [← h, e]⟩
 · refine .inr ⟨e, ?_, ?_⟩
   · rw [ByteArray.toList_eq, hSl]; exact e
   · rw [ByteArray.toList_eq, hSl]; cases s with | nil => exact absurd rfl e | cons _ _ => rfl
set_option maxRecDepth 100000 in
set_option maxHeartbeats 2000000 in
theorem may_any (i : IdV) (S : ByteArray) (hS : (⟨i.s.toArray⟩ : ByteArray) = S) (w : World) : Calls Tryz.prog 98 #[.agg #[.int .i64 i.k, .int .i64 i.n, .string S]] w fun e w' => e = .returned (.bool i.may) ∧ Below w.heap.size w w' := by
 obtain ⟨k, n, s⟩ := i
 dsimp only at hS ⊢
 obtain ⟨W, hW⟩ : ∃ W, w.alloc (.cells #[.int .i64 k, .int .i64 n, .string S] 57) = W := ⟨_, rfl⟩
 have bW := alloc_b hW
 obtain ⟨c0, c1, c2⟩ := box3_of hW W (Below.refl _ _)
 have hm : (⟨k, n, s⟩ : IdV).may = ((decide (k = 0) && decide (n = 0) && decide (s = [])) || (decide (k = 1) && decide (s = [])) || (decide (k = 2) && decide (n = 0))) := rfl
 rw [hm]
 have HB := Lib.hid bW
 clear bW hm
 by_cases k0 : k = 0
 · subst k0
   by_cases n0 : n = 0
   · subst n0
     rcases nilS hS with ⟨rfl, rfl⟩ | ⟨s1, s2, s3⟩
     · go_enter Tryz.func98, Tryz.ntmps98
       go_wp2_with fail
       go_ret
       exact ⟨rfl, HB.out⟩
     · rw [decide_eq_false s1]
       clear hS
       go_enter Tryz.func98, Tryz.ntmps98
       go_wp2_with fail
       go_ret
       exact ⟨rfl, HB.out⟩
   · have m1 : (n == 0) = false := beq_eq_false_iff_ne.2 n0
     rw [decide_eq_false n0]
     clear hS
     go_enter Tryz.func98, Tryz.ntmps98
     go_wp2_with fail
     go_ret
     exact ⟨rfl, HB.out⟩
 · have q0 : (k == 0) = false := beq_eq_false_iff_ne.2 k0
   rw [decide_eq_false k0]
   by_cases k1 : k = 1
   · subst k1
     rcases nilS hS with ⟨rfl, rfl⟩ | ⟨s1, s2, s3⟩
     · go_enter Tryz.func98, Tryz.ntmps98
       go_wp2_with fail
       go_ret
       exact ⟨rfl, HB.out⟩
     · rw [decide_eq_false s1]
       clear hS
       go_enter Tryz.func98, Tryz.ntmps98
       go_wp2_with fail
       go_ret
       exact ⟨rfl, HB.out⟩
   · have q1 : (k == 1) = false := beq_eq_false_iff_ne.2 k1
     rw [decide_eq_false k1]
     by_cases k2 : k = 2
     · subst k2
       by_cases n0 : n = 0
       · subst n0
         clear hS
         go_enter Tryz.func98, Tryz.ntmps98
         go_wp2_with fail
         go_ret
         exact ⟨rfl, HB.out⟩
       · have m1 : (n == 0) = false := beq_eq_false_iff_ne.2 n0
         rw [decide_eq_false n0]
         clear hS
         go_enter Tryz.func98, Tryz.ntmps98
         go_wp2_with fail
         go_ret
         exact ⟨rfl, HB.out⟩
     · have q2 : (k == 2) = false := beq_eq_false_iff_ne.2 k2
       rw [decide_eq_false k2]
       clear hS
       go_enter Tryz.func98, Tryz.ntmps98
       go_wp2_with fail
       go_ret
       exact ⟨rfl, HB.out⟩
theorem val_nil (i : IdV) : i.val.keys = [] ∧ i.val.items = [] := by
 unfold IdV.val
 split
 · exact ⟨rfl, rfl⟩
 · split <;> exact ⟨rfl, rfl⟩
set_option maxRecDepth 100000 in
set_option maxHeartbeats 2000000 in
theorem value_any (i : IdV) (S V : ByteArray) (hS : (⟨i.s.toArray⟩ : ByteArray) = S) (hV : (⟨i.val.str.toArray⟩ : ByteArray) = V) (h0 : -9223372036854775808 ≤ i.n) (h1 : i.n ≤ 9223372036854775807) (w : World) (hT : TenV w) :
 Calls Tryz.prog 100 #[.agg #[.int .i64 i.k, .int .i64 i.n, .string S]] w fun e w' => e = .returned (.agg #[.int .i64 i.val.kind, .string V, .slice none 0 0, .slice none 0 0]) ∧ Below w.heap.size w w' := by
 obtain ⟨k, n, s⟩ := i
 dsimp only at hS h0 h1 ⊢
 obtain ⟨W1, hW1⟩ : ∃ W, w.alloc (.cells #[.int .i64 k, .int .i64 n, .string S] 57) = W := ⟨_, rfl⟩
 obtain ⟨W, hW⟩ : ∃ W, W1.alloc (.cells #[.int .i64 0, .string ⟨#[]⟩, .slice none 0 0, .slice none 0 0] 25) = W := ⟨_, rfl⟩
 have bW1 := alloc_b hW1
 have bW2 := alloc_b hW
 have hz1 : W1.heap.size = w.heap.size + 1 := by rw [← hW1]; simp
 have hz : W1.heap.size = w.heap.size + 1 := hz1
 obtain ⟨c0, c1, c2⟩ := box3_of hW1 W bW2
 have hJ : JBox W (w.heap.size + 1) := by rw [← hW, ← hz1]; exact JBox.alloc _ _ _ _ _
 have HJ := Lib.hid hJ
 have HB := Lib.hid (Below.on bW1 bW2)
 have hT2 := hT.below (Below.on bW1 bW2)
 subst hW1
 clear bW1 bW2 hJ hT
 by_cases k1 : k = 1
 · have hv : (IdV.mk k n s).val = numJ n := if_pos k1
   rw [hv] at hV ⊢
   subst k1
   have hc := number_any n h0 h1 V hV W hT2
   rw [show (numJ n).kind = 3 from rfl]
   clear hV hv hS
   go_enter Tryz.func100, Tryz.ntmps100
   go_wp2_with (first
    | (go_at_call 108; refine hc.mono ?_; rintro e w1 ⟨rfl, hb1⟩; have hj1 : JBox w1 (w.heap.size + 1) := HJ.out.same (hb1.block _ HJ.out.lt); have HJ1 := Lib.hid hj1; clear hj1)
    | (refine store_val rfl (.tmp 2) (.tmp 9) rfl (w.heap.size + 1) rfl (.int .i64 3) (.string V) (.slice none 0 0) (.slice none 0 0) rfl rfl HJ1.out (fun V hV hgV _ => ?_)))
   refine bodyPost_ret (ret_val Tryz.results100 rfl hV) rfl ?_
   exact ⟨rfl, below_gbz (Below.on HB.out hb1) (by omega) hgV⟩
 · have q1 : (k == 1) = false := beq_eq_false_iff_ne.2 k1
   by_cases k2 : k = 2
   · have hv : (IdV.mk k n s).val = txtV s := by unfold IdV.val; rw [if_neg k1, if_pos k2]
     rw [hv] at hV ⊢
     subst k2
     have hVS : V = S := by rw [← hV, ← hS]; rfl
     subst hVS
     have hc := text_any V W
     rw [show (txtV s).kind = 4 from rfl]
     clear hV hv hS
     go_enter Tryz.func100, Tryz.ntmps100
     go_wp2_with (first
      | (go_at_call 101; refine hc.mono ?_; rintro e w1 ⟨rfl, hb1⟩; have hj1 : JBox w1 (w.heap.size + 1) := HJ.out.same (hb1.block _ HJ.out.lt); have HJ1 := Lib.hid hj1; clear hj1)
      | (refine store_val rfl (.tmp 2) (.tmp 14) rfl (w.heap.size + 1) rfl (.int .i64 4) (.string V) (.slice none 0 0) (.slice none 0 0) rfl rfl HJ1.out (fun V hV hgV _ => ?_)))
     refine bodyPost_ret (ret_val Tryz.results100 rfl hV) rfl ?_
     exact ⟨rfl, below_gbz (Below.on HB.out hb1) (by omega) hgV⟩
   · have hv : (IdV.mk k n s).val = jn 0 := by unfold IdV.val; rw [if_neg k1, if_neg k2]
     rw [hv] at hV ⊢
     have hVn : V = ⟨#[]⟩ := by rw [← hV]; rfl
     subst hVn
     have q2 : (k == 2) = false := beq_eq_false_iff_ne.2 k2
     rw [show (jn 0).kind = 0 from rfl]
     clear hV hv hS
     go_enter Tryz.func100, Tryz.ntmps100
     go_wp2_with (first
      | (refine store_val rfl (.tmp 2) (.tmp 15) rfl (w.heap.size + 1) rfl (.int .i64 0) (.string ⟨#[]⟩) (.slice none 0 0) (.slice none 0 0) rfl rfl HJ.out (fun V hV hgV _ => ?_)))
     refine bodyPost_ret (ret_val Tryz.results100 rfl hV) rfl ?_
     exact ⟨rfl, below_gbz HB.out (by omega) hgV⟩
/-- "jsonrpc": "2.0" -/
def L20 : List IC := [leafC (txtV v20)]
set_option maxRecDepth 100000 in
set_option maxHeartbeats 2000000 in
theorem message_new (w : World) : Calls Tryz.prog 99 #[] w fun e w' => ∃ lo tb ob kp kc ip ic, e = .returned (.tuple #[.pointer (some ⟨ob, 0, none⟩), .func (.func 154) #[] #[.pointer (some ⟨tb, 0, none⟩)]]) ∧ OP w.heap.size w' lo tb ob [kVer] L20 kp kc ip ic ∧ Below w.heap.size w w' := by
 have hV : (⟨(txtV v20).str.toArray⟩ : ByteArray) = ⟨#[50, 46, 48]⟩ := rfl
 go_enter Tryz.func99, Tryz.ntmps99
 go_wp2_with (first
  | (go_at_call 107; refine (object_new _).mono ?_; rintro e w1 ⟨lo, tb, ob, rfl, hop, hb1⟩; have HOP := Lib.hid hop; clear hop)
  | (go_at_call 101; refine (text_any _ _).mono ?_; rintro e w2 ⟨rfl, hb2⟩
     have h3 := add_leaf (HOP.out.below hb2) ⟨#[106, 115, 111, 110, 114, 112, 99]⟩ (txtV v20) ⟨#[50, 46, 48]⟩ rfl rfl rfl (by decide) (by decide))
  | (go_at_call 154; refine h3.mono ?_; rintro e w3 ⟨rfl, kp, kc, ip, ic, hop3, hb3⟩; have HO3 := Lib.hid hop3; clear hop3))
 go_ret2
 exact ⟨lo, tb, ob, kp, kc, ip, ic, rfl, HO3.out, Below.on hb1 hb2 |>.trans hb3⟩
end Go.Proofs.Rp
/- P6: rpc: Result; idOf; params. -/
namespace Go.Proofs.Rp
open Go.RowKit Go.Maps Go.Lib Go.Proofs.Utf Go.Proofs.Jt Go.Proofs

theorem digits_len : ∀ (k u : Nat), u < 10 ^ (k + 1) → (decDigits u).length ≤ k + 1
 | 0, u, h => by rw [decDigits, dif_pos (by simpa using h)]; exact Nat.le_refl _
 | k + 1, u, h => by
  rw [decDigits]
  split
  · show 1 ≤ _; omega
  · have := digits_len k (u / 10) (by rw [Nat.pow_succ] at h; omega)
    rw [List.length_append, List.length_singleton]
    omega
theorem itoa_len {n : Int} (h0 : -9223372036854775808 ≤ n) (h1 : n ≤ 9223372036854775807) : (itoa n).length ≤ 21 := by
 unfold itoa
 split
 · rw [List.length_cons]
   have := digits_len 19 n.natAbs (by omega)
   omega
 · have := digits_len 19 n.toNat (by omega)
   omega
theorem val_wt {i : IdV} (h0 : -9223372036854775808 ≤ i.n) (h1 : i.n ≤ 9223372036854775807) : i.val.wt ≤ 100 + i.s.length ∧ i.val.str.length ≤ 100 + i.s.length := by
 have h2 : (itoa i.n).length ≤ 21 := itoa_len h0 h1
 unfold IdV.val
 split
 · unfold numJ
   rw [JV.wt]
   simp only [keysW, wtL, str_mk]
   omega
 · split
   · unfold txtV
     rw [JV.wt]
     simp only [keysW, wtL, str_mk]
     omega
   · unfold jn
     rw [JV.wt]
     simp only [keysW, wtL, str_mk, List.length_nil]
     omega
theorem getV_wt (x : JV) (k : List UInt8) : (getV x k).wt ≤ x.wt := by
 unfold getV
 cases h : fieldV x k with
 | none => have := jv_wt_pos x; exact this
 | some y =>
  unfold fieldV at h
  split at h
  · have := wt_items h
    show y.wt ≤ _
    omega
  · cases h
theorem leaf_ok {w : World} {y : JV} (hk : y.keys = []) (hi : y.items = []) (hl : y.str.length ≤ maxLen) : KI w (leafC y).y (leafC y).kp (leafC y).kc (leafC y).ip (leafC y).ic ∧ (leafC y).y.str.length ≤ maxLen := ⟨ki_leaf hk hi, hl⟩
theorem keys_short {ks : List (List UInt8)} (h : ks.all (fun k => decide (k.length ≤ 100)) = true) : ∀ s ∈ ks, s.length ≤ maxLen := fun s hs => by
 have := of_decide_eq_true (List.all_eq_true.1 h s hs)
 unfold maxLen
 omega
set_option maxRecDepth 100000 in
set_option maxHeartbeats 4000000 in
theorem result_any {w : World} (i : IdV) (S : ByteArray) (hS : (⟨i.s.toArray⟩ : ByteArray) = S) (h0 : -9223372036854775808 ≤ i.n) (h1 : i.n ≤ 9223372036854775807) (his : i.s.length ≤ 100000)
 {v : JV} {T : ByteArray} {kp ip : Option Addr} {kc ic : Nat} (hT : Tabs w) (hTen : TenV w) (hK : KI w v kp kc ip ic) (hwt : v.wt ≤ 100000) (hT2 : (⟨v.str.toArray⟩ : ByteArray) = T) (X : ByteArray) (n : Nat) (hr : resV i v = (X.data.toList, n)) :
 Calls Tryz.prog 43 #[.agg #[.int .i64 i.k, .int .i64 i.n, .string S], .agg #[.int .i64 v.kind, .string T, .slice kp v.keys.length kc, .slice ip v.items.length ic]] w fun e w' => e = .returned (.tuple #[.string X, .int .i64 n]) ∧ Below w.heap.size w w' := by
 obtain ⟨W1, hW1⟩ : ∃ W, w.alloc (.cells #[.int .i64 i.k, .int .i64 i.n, .string S] 57) = W := ⟨_, rfl⟩
 obtain ⟨W, hW⟩ : ∃ W, W1.alloc (.cells #[.int .i64 v.kind, .string T, .slice kp v.keys.length kc, .slice ip v.items.length ic] 25) = W := ⟨_, rfl⟩
 have bW1 := alloc_b hW1
 have bW2 := alloc_b hW
 have bW := Below.on bW1 bW2
 have hz1 : W1.heap.size = w.heap.size + 1 := by rw [← hW1]; simp
 have hbi : ∀ V, Below W.heap.size W V → _ := fun V hV => box3_of hW1 V (Below.on bW2 hV)
 have hbv := box_of hW
 rw [hz1] at hbv
 have HI := Lib.hid hbi
 have HV := Lib.hid hbv
 have HT : Hid (∀ V, Below W.heap.size W V → Tabs V) := Lib.hid fun V hV => hT.below (Below.on bW hV)
 have HTen : Hid (∀ V, Below W.heap.size W V → TenV V) := Lib.hid fun V hV => hTen.below (Below.on bW hV)
 have HK : Hid (∀ V, Below W.heap.size W V → KI V v kp kc ip ic) := Lib.hid fun V hV => hK.stay (Below.on bW hV)
 have HBW := Lib.hid bW
 subst hW1
 obtain ⟨c0, c1, c2⟩ := hbi W (Below.refl _ _)
 have hmay := may_any i S hS W
 cases hm : i.may with
 | false =>
  have hr2 : X = ⟨#[]⟩ ∧ n = 2 := by
   unfold resV at hr
   rw [if_neg (by rw [hm]; simp)] at hr
   exact ⟨ByteArray.ext (Array.toList_inj.1 (congrArg Prod.fst hr).symm), (congrArg Prod.snd hr).symm⟩
  obtain ⟨rfl, rfl⟩ := hr2
  rw [hm] at hmay
  clear hm hr hbi hbv hz1 bW bW1 bW2 hT hTen hK hS hT2 hwt
  go_enter Tryz.func43, Tryz.ntmps43
  go_wp2_with (first | (go_at_call 98; refine hmay.mono ?_; rintro e w1 ⟨rfl, hb1⟩))
  go_ret2
  exact ⟨rfl, Below.on HBW.out hb1⟩
 | true =>
  rw [hm] at hmay
  have hput : putV (resO i v) = (X.data.toList, n) := by
   unfold resV at hr
   rwa [if_pos hm] at hr
  obtain ⟨VS, hVS⟩ : ∃ B : ByteArray, (⟨i.val.str.toArray⟩ : ByteArray) = B := ⟨_, rfl⟩
  obtain ⟨hvk, hvi⟩ := val_nil i
  obtain ⟨hvw, hvl⟩ := val_wt h0 h1
  have HPUT := Lib.hid hput
  have HS := Lib.hid (And.intro hS (And.intro hVS hT2))
  have HN := Lib.hid (And.intro hvk hvi)
  have HBD := Lib.hid (And.intro h0 h1)
  have HWT : Hid ((resO i v).wt ≤ 1000000 ∧ i.val.str.length ≤ maxLen ∧ v.str.length ≤ maxLen) := Lib.hid (by
   have := str_wt v
   refine ⟨?_, ?_, ?_⟩
   · unfold resO
     rw [JV.wt]
     simp only [keysW, wtL, kVer, kId, kResult, List.length_cons, List.length_nil]
     have : (txtV v20).wt = 4 := rfl
     omega
   · unfold maxLen; omega
   · unfold maxLen; omega)
  clear hm hr hput hvk hvi hvw hvl h0 h1 hS hVS hT2 hwt hbi hbv hz1 bW bW1 bW2 hT hTen hK
  go_enter Tryz.func43, Tryz.ntmps43
  go_upto_region 4 with (first
   | (go_at_call 98; refine hmay.mono ?_; rintro e w1 ⟨rfl, hb1⟩)
   | (go_at_call 99; refine (message_new _).mono ?_; rintro e w2 ⟨lo, tb, ob, p1, q1, p2, q2, rfl, hop, hb2⟩; have HOP := Lib.hid hop; have b2 := Below.on hb1 hb2; clear hop))
  clear c0 c1 c2
  obtain ⟨c0, c1, c2⟩ := HI.out w2 b2
  have hval := value_any i S VS HS.out.1 HS.out.2.1 HBD.out.1 HBD.out.2 w2 (HTen.out w2 b2)
  go_upto_region 5 with (first
   | (go_at_call 100; refine hval.mono ?_; rintro e w3 ⟨rfl, hb3⟩
      have had := add_leaf (HOP.out.below hb3) ⟨#[105, 100]⟩ i.val VS HS.out.2.1 HN.out.1 HN.out.2 (by decide) (by decide))
   | (go_at_call 154; refine had.mono ?_; rintro e w4 ⟨rfl, p3, q3, p4, q4, hop4, hb4⟩; have HO4 := Lib.hid hop4; have b14 : Below w1.heap.size w1 w4 := Below.on hb2 hb3 |>.trans hb4; have b4 := Below.on hb1 b14; clear hop4))
  clear c0 c1 c2
  obtain ⟨d0, d1, d2, d3⟩ := HV.out w4 b4
  have had2 := add_any HO4.out ⟨#[114, 101, 115, 117, 108, 116]⟩ ⟨v, kp, kc, ip, ic⟩ T HS.out.2.2 (by decide) (by show 2 ≤ 1000; decide)
  go_upto_region 6 with (first
   | (go_at_call 154; refine had2.mono ?_; rintro e w5 ⟨rfl, p5, q5, p6, q6, hop5, hb5⟩; have HO5 := Lib.hid hop5; have b15 : Below w1.heap.size w1 w5 := b14.trans hb5; have b5 := Below.on hb1 b15; clear hop5))
  have hop5 : OP w1.heap.size w5 lo tb ob [kVer, kId, kResult] [leafC (txtV v20), leafC i.val, ⟨v, kp, kc, ip, ic⟩] p5 q5 p6 q6 := HO5.out
  obtain ⟨o0, o1, o2, o3⟩ := cells4 hop5.ho
  have hki : KI w5 (resO i v) p5 q5 p6 q6 := hop5.ki (fun c hc => by
   simp only [List.mem_cons, List.not_mem_nil, or_false] at hc
   rcases hc with rfl | rfl | rfl
   · exact leaf_ok rfl rfl (by decide)
   · exact leaf_ok HN.out.1 HN.out.2 HWT.out.2.1
   · exact ⟨HK.out w5 b5, HWT.out.2.2⟩) ⟨(by show 3 ≤ maxLen; decide), by decide, keys_short (by decide)⟩
  have h84 : Calls Tryz.prog 84 #[.agg #[.int .i64 6, .string ⟨#[]⟩, .slice p5 3 q5, .slice p6 3 q6]] w5 fun e w'' => e = .returned (.tuple #[.string X, .int .i64 (n : Nat)]) ∧ Below w5.heap.size w5 w'' := put_is (HT.out w5 b5) hki HWT.out.1 (S := ⟨#[]⟩) rfl HPUT.out w5 (Below.refl _ _)
  simp only [List.length_cons, List.length_nil] at o2 o3
  go_wp2_with (first
   | (go_at_call 84; refine h84.mono ?_; rintro e w6 ⟨rfl, hb6⟩))
  go_ret2
  exact ⟨rfl, Below.on HBW.out (Below.on b5 hb6)⟩
set_option maxRecDepth 100000 in
set_option maxHeartbeats 4000000 in
theorem idOf_any {w : World} {x : JV} {S : ByteArray} {kp ip : Option Addr} {kc ic : Nat} (hE : ErrV w) (h : KI w x kp kc ip ic) (hwt : x.wt ≤ 1000000) (hS : (⟨x.str.toArray⟩ : ByteArray) = S) (i : IdV) (hi : idOfV x = i) (b : Bool) (hb : hasV x kId = b) (I : ByteArray) (hI : (⟨i.s.toArray⟩ : ByteArray) = I) :
 Calls Tryz.prog 93 #[.agg #[.int .i64 x.kind, .string S, .slice kp x.keys.length kc, .slice ip x.items.length ic]] w fun e w' => e = .returned (.tuple #[.agg #[.int .i64 i.k, .int .i64 i.n, .string I], .bool b]) ∧ Below w.heap.size w w' := by
 obtain ⟨W1, hW1⟩ : ∃ W, w.alloc (.cells #[.int .i64 x.kind, .string S, .slice kp x.keys.length kc, .slice ip x.items.length ic] 25) = W := ⟨_, rfl⟩
 obtain ⟨W, hW⟩ : ∃ W, W1.alloc (.cells #[.int .i64 0, .int .i64 0, .string ⟨#[]⟩] 57) = W := ⟨_, rfl⟩
 have bW1 := alloc_b hW1
 have bW2 := alloc_b hW
 have bW := Below.on bW1 bW2
 have hz1 : W1.heap.size = w.heap.size + 1 := by rw [← hW1]; simp
 obtain ⟨c0, c1, c2, c3⟩ := box_of hW1 W bW2
 have hJ : IBox W (w.heap.size + 1) := by rw [← hW, ← hz1]; exact IBox.alloc _ _ _ _
 obtain ⟨f, hf⟩ : ∃ f, getV x kId = f := ⟨_, rfl⟩
 obtain ⟨F, hF⟩ : ∃ F : ByteArray, (⟨f.str.toArray⟩ : ByteArray) = F := ⟨_, rfl⟩
 have hfs : F.size ≤ 16777216 := by
  have h1 := getV_wt x kId
  rw [hf] at h1
  have h2 := str_wt f
  rw [← hF, arr_size]
  omega
 have hfield := fieldA_is (K := ⟨#[105, 100]⟩) (h.stay bW) hwt hS hf hb hF W (Below.refl _ _)
 have hint : (if f.kind = 3 then intL F.data.toList else none) = intV f := by rw [← hF]; rfl
 have hid : i = (match intV f with | some n => ⟨1, n, []⟩ | none => if f.kind = 4 then ⟨2, 0, f.str⟩ else id0) := by rw [← hi, ← hf]; rfl
 have HJ := Lib.hid hJ
 have HBW := Lib.hid bW
 have HE : Hid (∀ V, Below W.heap.size W V → ErrV V) := Lib.hid fun V hV => hE.below (Below.on bW hV)
 have HF := Lib.hid hF
 have HFS := Lib.hid hfs
 subst hW1
 clear h hwt hS hi hf hF hfs hb bW bW1 bW2 hz1 hJ hE
 cases ho : intV f with
 | some n =>
  rw [ho] at hint hid
  subst hid
  have hIn : I = ⟨#[]⟩ := hI.symm
  subst hIn
  dsimp only
  have HI := Lib.hid hint
  clear hI ho hint
  go_enter Tryz.func93, Tryz.ntmps93
  go_wp2_with (first
   | (go_at_call 27; refine hfield.mono ?_; rintro e w1 ⟨fp, fc, gp, gc, rfl, _, _, hb1⟩
      obtain ⟨V1, hV1⟩ : ∃ V, w1.alloc (.cells #[.int .i64 f.kind, .string F, .slice fp f.keys.length fc, .slice gp f.items.length gc] 25) = V := ⟨_, rfl⟩
      have b1 := Below.on hb1 (alloc_b hV1)
      obtain ⟨d0, d1, d2, d3⟩ := box_of hV1 V1 (Below.refl _ _)
      have h29 := int_any (kp := fp) (ip := gp) (kn := f.keys.length) (kc := fc) (n := f.items.length) (ic := gc) f.kind F (HE.out V1 b1) HFS.out _ HI.out)
   | (go_at_call 29; refine h29.mono ?_; rintro e w2 ⟨rfl, hb2⟩; have b2 := Below.on b1 hb2; have hj2 : IBox w2 (w.heap.size + 1) := HJ.out.same (b2.block _ HJ.out.lt); have HJ2 := Lib.hid hj2; clear hj2)
   | (refine store_id rfl (.tmp 2) (.tmp 20) rfl (w.heap.size + 1) rfl (.int .i64 1) (.int .i64 n) (.string ⟨#[]⟩) rfl rfl HJ2.out (fun V hV hgV _ => ?_)))
  refine bodyPost_ret (ret_id2 Tryz.results93 rfl rfl hV) rfl ?_
  exact ⟨rfl, below_gbz (Below.on HBW.out b2) (by omega) hgV⟩
 | none =>
  rw [ho] at hint hid
  dsimp only at hid
  by_cases k4 : f.kind = 4
  · rw [if_pos k4] at hid
    subst hid
    have hIF : I = F := by rw [← hI, ← HF.out]
    subst hIF
    dsimp only
    have q4 : (f.kind == 4) = true := by rw [k4]; rfl
    have HI := Lib.hid hint
    clear hI ho hint k4
    go_enter Tryz.func93, Tryz.ntmps93
    go_wp2_with (first
     | (go_at_call 27; refine hfield.mono ?_; rintro e w1 ⟨fp, fc, gp, gc, rfl, _, _, hb1⟩
        obtain ⟨V1, hV1⟩ : ∃ V, w1.alloc (.cells #[.int .i64 f.kind, .string I, .slice fp f.keys.length fc, .slice gp f.items.length gc] 25) = V := ⟨_, rfl⟩
        have hv1 := alloc_b hV1
        have b1 := Below.on hb1 hv1
        have HX := Lib.hid (box_of hV1)
        obtain ⟨d0, d1, d2, d3⟩ := HX.out V1 (Below.refl _ _)
        have h29 := int_any (kp := fp) (ip := gp) (kn := f.keys.length) (kc := fc) (n := f.items.length) (ic := gc) f.kind I (HE.out V1 b1) HFS.out _ HI.out)
     | (go_at_call 29; refine h29.mono ?_; rintro e w2 ⟨rfl, hb2⟩; have b2 := Below.on b1 hb2; have hj2 : IBox w2 (w.heap.size + 1) := HJ.out.same (b2.block _ HJ.out.lt); have HJ2 := Lib.hid hj2; clear hj2; clear d0 d1 d2 d3; obtain ⟨d0, d1, d2, d3⟩ := HX.out w2 hb2)
     | (refine store_id rfl (.tmp 2) (.tmp 27) rfl (w.heap.size + 1) rfl (.int .i64 2) (.int .i64 0) (.string I) rfl rfl HJ2.out (fun V hV hgV _ => ?_)))
    refine bodyPost_ret (ret_id2 Tryz.results93 rfl rfl hV) rfl ?_
    exact ⟨rfl, below_gbz (Below.on HBW.out b2) (by omega) hgV⟩
  · rw [if_neg k4] at hid
    subst hid
    have hIn : I = ⟨#[]⟩ := hI.symm
    subst hIn
    have q4 : (f.kind == 4) = false := beq_eq_false_iff_ne.2 k4
    have HI := Lib.hid hint
    rw [show id0.k = 0 from rfl, show id0.n = 0 from rfl]
    clear hI ho hint k4
    go_enter Tryz.func93, Tryz.ntmps93
    go_wp2_with (first
     | (go_at_call 27; refine hfield.mono ?_; rintro e w1 ⟨fp, fc, gp, gc, rfl, _, _, hb1⟩
        obtain ⟨V1, hV1⟩ : ∃ V, w1.alloc (.cells #[.int .i64 f.kind, .string F, .slice fp f.keys.length fc, .slice gp f.items.length gc] 25) = V := ⟨_, rfl⟩
        have hv1 := alloc_b hV1
        have b1 := Below.on hb1 hv1
        have HX := Lib.hid (box_of hV1)
        obtain ⟨d0, d1, d2, d3⟩ := HX.out V1 (Below.refl _ _)
        have h29 := int_any (kp := fp) (ip := gp) (kn := f.keys.length) (kc := fc) (n := f.items.length) (ic := gc) f.kind F (HE.out V1 b1) HFS.out _ HI.out)
     | (go_at_call 29; refine h29.mono ?_; rintro e w2 ⟨rfl, hb2⟩; have b2 := Below.on b1 hb2; have hj2 : IBox w2 (w.heap.size + 1) := HJ.out.same (b2.block _ HJ.out.lt); have HJ2 := Lib.hid hj2; clear hj2; clear d0 d1 d2 d3; obtain ⟨d0, d1, d2, d3⟩ := HX.out w2 hb2)
     | (refine store_id rfl (.tmp 2) (.tmp 29) rfl (w.heap.size + 1) rfl (.int .i64 0) (.int .i64 0) (.string ⟨#[]⟩) rfl rfl HJ2.out (fun V hV hgV _ => ?_)))
    refine bodyPost_ret (ret_id2 Tryz.results93 rfl rfl hV) rfl ?_
    exact ⟨rfl, below_gbz (Below.on HBW.out b2) (by omega) hgV⟩
set_option maxRecDepth 100000 in
theorem params_any (k : Int) (S : ByteArray) (kp ip : Option Addr) (kn kc n ic : Nat) (w : World) : Calls Tryz.prog 94 #[.agg #[.int .i64 k, .string S, .slice kp kn kc, .slice ip n ic]] w fun e w' => e = .returned (.bool (decide (k = 0) || decide (k = 5) || decide (k = 6))) ∧ Below w.heap.size w w' := by
 obtain ⟨W, hW⟩ : ∃ W, w.alloc (.cells #[.int .i64 k, .string S, .slice kp kn kc, .slice ip n ic] 25) = W := ⟨_, rfl⟩
 have bW := alloc_b hW
 obtain ⟨c0, c1, c2, c3⟩ := box_of hW W (Below.refl _ _)
 have HB := Lib.hid bW
 clear bW
 by_cases k0 : k = 0
 · subst k0
   go_enter Tryz.func94, Tryz.ntmps94
   go_wp2_with fail
   go_ret
   exact ⟨rfl, HB.out⟩
 · have q0 : (k == 0) = false := beq_eq_false_iff_ne.2 k0
   rw [decide_eq_false k0]
   by_cases k5 : k = 5
   · subst k5
     go_enter Tryz.func94, Tryz.ntmps94
     go_wp2_with fail
     go_ret
     exact ⟨rfl, HB.out⟩
   · have q5 : (k == 5) = false := beq_eq_false_iff_ne.2 k5
     rw [decide_eq_false k5]
     by_cases k6 : k = 6
     · subst k6
       go_enter Tryz.func94, Tryz.ntmps94
       go_wp2_with fail
       go_ret
       exact ⟨rfl, HB.out⟩
     · have q6 : (k == 6) = false := beq_eq_false_iff_ne.2 k6
       rw [decide_eq_false k6]
       go_enter Tryz.func94, Tryz.ntmps94
       go_wp2_with fail
       go_ret
       exact ⟨rfl, HB.out⟩
end Go.Proofs.Rp
