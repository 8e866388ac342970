/- Merged texts: Q3, Q4. -/
import Derived.Test.YtaiaiiepbpbmmaaGreatDoorQX
import Derived.Test.YtaiaiiepbpbmmaaGreatDoorZY
import Derived.Test.YtaiaiiepbpbmmaaGreatDoorP8
/- Q3: emendref24: objects that are made: begun, with. -/
namespace Go.Proofs.Rp
open Go.RowKit Go.Maps Go.Lib Go.Proofs.Utf Go.Proofs.Jt Go.Proofs

theorem wpl_append_own22 {ops : Array Oper} {rest : List Oper} {w : World} {o : Oper} {a : Act} {Q : Exit → Act → World → Prop} (hgd : o.guard = none) (s x : Operand)
 (ho : o.op = .call { callee := .builtin .append, args := #[s, x], argTypes := #[22, 22] })
 (base : Nat) (v : Value) (n : Nat) (xs : List Value) (hs : a.eval s = v) (hown : w.ownsRow base 9 1 v n xs)
 (ad : Addr) (c : Nat) (news : List Value) (hx : a.eval x = .slice (some ad) 1 c) (hl : news.length = 1) (hnews : ∀ j u, news[j]? = some u → w.cell? (ad.add j) = some u) (h1 : ∀ u ∈ news, u.oneCell' = true)
 (h63 : n ≤ 1000000) (hbase : base ≤ w.heap.size)
 (h : ∀ v' w', w'.ownsRow base 9 1 v' (n + 1) (xs ++ news) → w.grownBy w' v.ownBlock → (v'.ownBlock = v.ownBlock ∨ v'.ownBlock = some w.heap.size) → wpList Tryz.prog ops Q rest (a.put o.dst v') w') : wpList Tryz.prog ops Q (o :: rest) a w := by
 obtain ⟨i9_, hi9, hz90, hz91, hz92⟩ := info_parts info9
 exact wpList_plain hgd fun _ hK => wp_append_own_at s x 22 ho base 9 i9_ _ 1 16 Tryz.underlying22 hi9 hz90 hz91 hz92 rfl (by decide) v n xs hs hown ad 1 c news hx hl hnews h1 (by unfold maxLen; omega) (by omega) hbase fun v' w' h2 h3 h4 => hK _ _ (h v' w' h2 h3 h4)
/-- rows of keys and items that are being made, in blocks from n0 on -/
structure OR (n0 : Nat) (w : World) (ks : List (List UInt8)) (L : List IC) (kp : Option Addr) (kc : Nat) (ip : Option Addr) (ic : Nat) : Prop where
 rk : w.ownsRow n0 9 1 (.slice kp ks.length kc) ks.length (strC ks)
 ri : w.ownsRow n0 25 4 (.slice ip L.length ic) L.length (rowC L)
 sz : n0 ≤ w.heap.size
theorem OR.below {n0 : Nat} {w w' : World} {ks : List (List UInt8)} {L : List IC} {kp : Option Addr} {kc : Nat} {ip : Option Addr} {ic : Nat} (h : OR n0 w ks L kp kc ip ic) (hb : Below w.heap.size w w') : OR n0 w' ks L kp kc ip ic :=
 ⟨row_fr h.rk (FrP.of_none (P := fun _ => False) (gb_below' hb)) (fun _ _ h => h), row_fr h.ri (FrP.of_none (P := fun _ => False) (gb_below' hb)) (fun _ _ h => h), Nat.le_trans h.sz hb.size⟩
theorem OR.nil (w : World) : OR w.heap.size w [] [] none 0 none 0 := ⟨⟨rfl, .inl ⟨rfl, rfl⟩⟩, ⟨rfl, .inl ⟨rfl, rfl⟩⟩, Nat.le_refl _⟩
/-- the value that it is -/
theorem OR.ki {n0 : Nat} {w : World} {ks : List (List UInt8)} {L : List IC} {kp : Option Addr} {kc : Nat} {ip : Option Addr} {ic : Nat} (h : OR n0 w ks L kp kc ip ic) (hc : ∀ c ∈ L, KI w c.y c.kp c.kc c.ip c.ic ∧ c.y.str.length ≤ maxLen) (hz : L.length ≤ maxLen ∧ ks.length ≤ maxLen ∧ ∀ s ∈ ks, s.length ≤ maxLen) :
 KI w (.mk 6 [] ks (L.map (·.y))) kp kc ip ic := by
 obtain ⟨kp', kc', e, hs, _⟩ := strs_of_row h.rk
 cases e
 refine KI.rows hs hz fun i c hi => ?_
 obtain ⟨h1, h2⟩ := hc c (List.mem_of_getElem? hi)
 refine ⟨?_, h1, h2⟩
 rcases h.ri.2 with ⟨_, hn⟩ | ⟨g, cap, cur, e, h3, h4, h5, h6⟩
 · have := (List.getElem?_eq_some_iff.1 hi).1
   omega
 · cases e
   refine ⟨_, rfl, ?_⟩
   have hcell : ∀ j u, c.cells[j]? = some u → w.cell? ⟨g, i * 4 + j, none⟩ = some u := fun j u hu => by
    have hj : j < 4 := by
     have := (List.getElem?_eq_some_iff.1 hu).1
     simpa [IC.cells] using this
    have := h.ri.cells (g := g) rfl (i * 4 + j) u (by rw [rowC_get L i c hi j hj]; exact hu)
    rwa [add0] at this
   rw [add0]
   exact ⟨hcell 0 _ rfl, hcell 1 _ rfl, hcell 2 _ rfl, hcell 3 _ rfl, (ltS h4)⟩
/-- no row lies in the block z -/
def Ap (z : Nat) (kp ip : Option Addr) : Prop := (∀ k n c, (Value.slice kp n c).ownBlock = some k → k ≠ z) ∧ ∀ k n c, (Value.slice ip n c).ownBlock = some k → k ≠ z
theorem own_any {p : Option Addr} {n c n' c' k : Nat} (h : (Value.slice p n c).ownBlock = some k) : (Value.slice p n' c').ownBlock = some k := by
 cases p with
 | none => cases h
 | some a => exact h
theorem OR.ap {n0 : Nat} {w : World} {ks : List (List UInt8)} {L : List IC} {kp : Option Addr} {kc : Nat} {ip : Option Addr} {ic : Nat} (h : OR n0 w ks L kp kc ip ic) {z : Nat} (hz : z < n0 ∨ w.heap.size ≤ z) : Ap z kp ip :=
 ⟨fun k _ _ hk => by have := h.rk.lt k (own_any hk); omega, fun k _ _ hk => by have := h.ri.lt k (own_any hk); omega⟩
theorem OR.mono {n0 n1 : Nat} {w : World} {ks : List (List UInt8)} {L : List IC} {kp : Option Addr} {kc : Nat} {ip : Option Addr} {ic : Nat} (h : OR n0 w ks L kp kc ip ic) (hn : n1 ≤ n0) : OR n1 w ks L kp kc ip ic :=
 ⟨⟨h.rk.1, h.rk.2.imp_right fun ⟨g, cap, cur, e, h1, r⟩ => ⟨g, cap, cur, e, Nat.le_trans hn h1, r⟩⟩, ⟨h.ri.1, h.ri.2.imp_right fun ⟨g, cap, cur, e, h1, r⟩ => ⟨g, cap, cur, e, Nat.le_trans hn h1, r⟩⟩, Nat.le_trans hn h.sz⟩
/-- a store into a block that holds no row -/
theorem OR.set {n0 z : Nat} {w w' : World} {ks : List (List UInt8)} {L : List IC} {kp : Option Addr} {kc : Nat} {ip : Option Addr} {ic : Nat} (h : OR n0 w ks L kp kc ip ic) (hg : w.grownBy w' (some z)) (ha : Ap z kp ip) : OR n0 w' ks L kp kc ip ic :=
 ⟨row_fr h.rk (FrP.of (P := fun k => k = z) hg rfl) (fun k hk e => ha.1 k _ _ hk e), row_fr h.ri (FrP.of (P := fun k => k = z) hg rfl) (fun k hk e => ha.2 k _ _ hk e), Nat.le_trans h.sz hg.size⟩
set_option maxRecDepth 100000 in
set_option maxHeartbeats 8000000 in
theorem with_any {n0 : Nat} {w : World} {ks : List (List UInt8)} {L : List IC} {kp0 : Option Addr} {kc0 : Nat} {ip0 : Option Addr} {ic0 : Nat} (h : OR n0 w ks L kp0 kc0 ip0 ic0) (K : ByteArray) (c : IC) (Y : ByteArray) (hY : (⟨c.y.str.toArray⟩ : ByteArray) = Y) (n n' m m' : Nat) (hn : ks.length = n) (hn' : n + 1 = n') (hm : L.length = m) (hm' : m + 1 = m') (hn1 : n ≤ 1000) (hm1 : m ≤ 1000) :
 Calls Tryz.prog 104 #[.agg #[.int .i64 6, .string ⟨#[]⟩, .slice kp0 n kc0, .slice ip0 m ic0], .string K, .agg #[.int .i64 c.y.kind, .string Y, .slice c.kp c.y.keys.length c.kc, .slice c.ip c.y.items.length c.ic]] w fun e w' => ∃ kp kc ip ic, e = .returned (.agg #[.int .i64 6, .string ⟨#[]⟩, .slice kp n' kc, .slice ip m' ic]) ∧ OR n0 w' (ks ++ [K.data.toList]) (L ++ [c]) kp kc ip ic ∧ Below n0 w w' ∧ ∀ z, z < w.heap.size → Ap z kp0 ip0 → w'.heap[z]? = w.heap[z]? ∧ Ap z kp ip := by
 obtain ⟨hrk, hri, hsz⟩ := h
 subst hn'
 subst hm'
 rw [hn] at hrk
 rw [hm] at hri
 obtain ⟨W1, hW1⟩ : ∃ W, w.alloc (.cells #[.int .i64 6, .string ⟨#[]⟩, .slice kp0 n kc0, .slice ip0 m ic0] 25) = W := ⟨_, rfl⟩
 obtain ⟨W2, hW2⟩ : ∃ W, W1.alloc (.cells #[.int .i64 c.y.kind, .string Y, .slice c.kp c.y.keys.length c.kc, .slice c.ip c.y.items.length c.ic] 25) = W := ⟨_, rfl⟩
 obtain ⟨W, hW⟩ : ∃ W, W2.alloc (.cells #[.int .i64 0, .string ⟨#[]⟩, .slice none 0 0, .slice none 0 0] 25) = W := ⟨_, rfl⟩
 have bW1 := alloc_b hW1
 have bW2 := alloc_b hW2
 have bW3 := alloc_b hW
 have bW := (Below.on bW1 bW2).trans (bW3.mono (by have := bW1.size; have := bW2.size; omega))
 have z1 : W1.heap.size = w.heap.size + 1 := by rw [← hW1]; simp
 have z2 : W2.heap.size = w.heap.size + 2 := by rw [← hW2]; simp; omega
 have z3 : W.heap.size = w.heap.size + 3 := by rw [← hW]; simp; omega
 have r0 := row_of hW1 W (bW2.trans (bW3.mono bW2.size))
 have r1 := row_of hW2 W bW3
 have r2 := row_of hW W (Below.refl _ _)
 rw [z1] at r1
 rw [z2] at r2
 have hkb := fun b hb => hrk.lt b hb
 have hib := fun b hb => hri.lt b hb
 obtain ⟨X1, hX1⟩ : ∃ X, W.alloc (.cells #[.string K] 9) = X := ⟨_, rfl⟩
 have bX1 := alloc_b hX1
 have zX1 : X1.heap.size = W.heap.size + 1 := by rw [← hX1]; simp
 have hg1 := row_of hX1 X1 (Below.refl _ _)
 rw [z3] at hg1
 have bwX : Below w.heap.size w X1 := Below.on bW bX1
 have rkX := row_fr hrk (FrP.of_none (P := fun _ => False) (gb_below' bwX)) (fun _ _ h => h)
 have riX := row_fr hri (FrP.of_none (P := fun _ => False) (gb_below' bwX)) (fun _ _ h => h)
 have r0X := (bX1.block _ (ltS r0)).trans r0
 have r1X := (bX1.block _ (ltS r1)).trans r1
 have r2X := (bX1.block _ (ltS r2)).trans r2
 have HX := Lib.hid (And.intro rkX (And.intro riX (And.intro r0X (And.intro r1X (And.intro r2X (And.intro hg1 bwX))))))
 have HK := Lib.hid (And.intro hkb hib)
 obtain ⟨x0, x1, x2, x3⟩ := cells4 r0
 clear hrk hri bW1 bW2 bW3 bW r0 r1 r2 hkb hib bX1 hg1 bwX rkX riX r0X r1X r2X
 subst hW1
 subst hW2
 go_enter Tryz.func104, Tryz.ntmps104
 go_upto_region 2 with (first
  | (at_builtin
     refine wpl_append_own22 rfl (.tmp 8) (.tmp 10) rfl n0 _ _ _ rfl HX.out.1 ⟨w.heap.size + 3, 0, none⟩ 1 [.string K] rfl rfl (row_news HX.out.2.2.2.2.2.1) (fun u hu => by rw [List.mem_singleton.1 hu]; rfl) (by omega) (by omega) ?_
     intro kv2 w5 hk2 hgk hat
     obtain ⟨p2, q2, rfl⟩ := row_form hk2
     have hne : ∀ b, (Value.slice kp0 n kc0).ownBlock = some b → n0 ≤ b ∧ b < w.heap.size := HK.out.1
     have bl : ∀ b, b < X1.heap.size → w.heap.size ≤ b → w5.heap[b]? = X1.heap[b]? := (fun b hb hh => hgk.block b hb (fun e => by have := hne b e.symm; omega))
     have r05 := (bl w.heap.size (by omega) (by omega)).trans HX.out.2.2.1
     have r15 := (bl (w.heap.size + 1) (by omega) (by omega)).trans HX.out.2.2.2.1
     have r25 := (bl (w.heap.size + 2) (by omega) (by omega)).trans HX.out.2.2.2.2.1
     have ri5 := row_fr HX.out.2.1 (FrP.of_row (P := fun k => (Value.slice kp0 n kc0).ownBlock = some k) hgk (fun k hk => hk)) (fun k hk e => LV.apart HX.out.1 HX.out.2.1 k e hk)
     have hB5 : Below n0 w w5 := (HX.out.2.2.2.2.2.2.mono hsz).grown hgk (by omega) (fun b e => (hne b e).1)
     have hz5 := hgk.size
     obtain ⟨y0, y1, y2, y3⟩ := cells4 r05
     have yf : w5.frozen? ⟨w.heap.size, 2, none⟩ = false := by simp [World.frozen?, r05]
     have F5 : FrP (fun b => (Value.slice kp0 n kc0).ownBlock = some b ∨ (Value.slice ip0 m ic0).ownBlock = some b ∨ w.heap.size ≤ b) w w5 := (FrP.of_none (gb_below' HX.out.2.2.2.2.2.2)).trans (FrP.of_row hgk (fun k hk => .inl hk))
     have HF5 := Lib.hid F5
     have H5 := Lib.hid (And.intro hk2 (And.intro ri5 (And.intro r05 (And.intro r15 (And.intro r25 (And.intro hB5 (And.intro hz5 hat)))))))
     clear F5
     clear hk2 ri5 r05 r15 r25 hB5 hgk hat hne bl x0 x1 x2 x3))
 obtain ⟨w6, hw6⟩ : ∃ w6, w5.setCell ⟨w.heap.size, 2, none⟩ (.slice p2 (n + 1) q2) = w6 := ⟨_, rfl⟩
 have hh6 := heap_setCell_self H5.out.2.2.1 2 (.slice p2 (n + 1) q2)
 have gs6 := gb_set w5 w.heap.size 2 (.slice p2 (n + 1) q2)
 rw [hw6] at hh6 gs6 ⊢
 have hh6' : w6.heap[w.heap.size]? = some (.cells #[.int .i64 6, .string ⟨#[]⟩, .slice p2 (n + 1) q2, .slice ip0 m ic0] 25 (0, 0)) := hh6
 have z5 := H5.out.2.2.2.2.2.2.1
 have z6 := gs6.size
 have ne2' : ∀ k, (Value.slice p2 (n + 1) q2).ownBlock = some k → (Value.slice kp0 n kc0).ownBlock = some k ∨ k = X1.heap.size := fun k hk => by
  rcases H5.out.2.2.2.2.2.2.2 with e | e
  · rw [e] at hk; exact .inl hk
  · rw [e] at hk; exact .inr (Option.some.inj hk).symm
 have ne2 : ∀ k, (Value.slice p2 (n + 1) q2).ownBlock = some k → k < w.heap.size ∨ k = X1.heap.size := fun k hk => (ne2' k hk).imp_left fun h => (HK.out.1 k h).2
 have HF6 := Lib.hid (HF5.out.trans (FrP.of gs6 (.inr (.inr (Nat.le_refl _)))))
 have HN2 := Lib.hid ne2'
 have rk6 := row_fr H5.out.1 (FrP.of (P := fun k => k = w.heap.size) gs6 rfl) (fun k hk e => by have := ne2 k hk; omega)
 have ri6 := row_fr H5.out.2.1 (FrP.of (P := fun k => k = w.heap.size) gs6 rfl) (fun k hk e => by have := (HK.out.2 k hk).2; omega)
 have r16 := (gs6.block (w.heap.size + 1) (by omega) (fun e => by have := Option.some.inj e; omega)).trans H5.out.2.2.2.1
 have r26 := (gs6.block (w.heap.size + 2) (by omega) (fun e => by have := Option.some.inj e; omega)).trans H5.out.2.2.2.2.1
 have hB6 : Below n0 w w6 := H5.out.2.2.2.2.2.1.grown gs6 (by omega) (fun b e => by have := Option.some.inj e; omega)
 obtain ⟨X2, hX2⟩ : ∃ X, w6.alloc (.cells #[.int .i64 c.y.kind, .string Y, .slice c.kp c.y.keys.length c.kc, .slice c.ip c.y.items.length c.ic] 25) = X := ⟨_, rfl⟩
 have bX2 := alloc_b hX2
 have zX2 : X2.heap.size = w6.heap.size + 1 := by rw [← hX2]; simp
 have hg2 := row_of hX2 X2 (Below.refl _ _)
 have rk2 := row_fr rk6 (FrP.of_none (P := fun _ => False) (gb_below' bX2)) (fun _ _ h => h)
 have ri2 := row_fr ri6 (FrP.of_none (P := fun _ => False) (gb_below' bX2)) (fun _ _ h => h)
 have r02 := (bX2.block _ (ltS hh6')).trans hh6'
 have r22 := (bX2.block _ (ltS r26)).trans r26
 have hB2 : Below n0 w X2 := hB6.trans (bX2.mono (by omega))
 obtain ⟨y0, y1, y2, y3⟩ := cells4 hh6'
 obtain ⟨v0, v1, v2, v3⟩ := cells4 r16
 have HX2 := Lib.hid (And.intro rk2 (And.intro ri2 (And.intro r02 (And.intro r22 (And.intro hg2 hB2)))))
 have HZ := Lib.hid (And.intro z5 (And.intro z6 zX2))
 have HNE := Lib.hid ne2
 clear ne2' HF5
 clear hh6 hh6' gs6 rk6 ri6 r16 r26 hB6 bX2 hg2 rk2 ri2 r02 r22 hB2 z5 z6 ne2 hw6 H5
 go_upto_region 3 with (first
  | (at_builtin
     refine wpl_append_own_at rfl (.tmp 14) (.tmp 16) rfl n0 _ _ _ rfl HX2.out.2.1 ⟨w6.heap.size, 0, none⟩ 1 [.int .i64 c.y.kind, .string Y, .slice c.kp c.y.keys.length c.kc, .slice c.ip c.y.items.length c.ic] rfl rfl (row_news HX2.out.2.2.2.2.1) (fun u hu => by simp only [List.mem_cons, List.not_mem_nil, or_false] at hu; rcases hu with rfl | rfl | rfl | rfl <;> rfl) (by omega) (by have := HZ.out; omega) ?_
     intro iv2 w7 hi2 hgi hat2
     obtain ⟨p4, q4, rfl⟩ := row_form hi2
     have hne : ∀ b, (Value.slice ip0 m ic0).ownBlock = some b → n0 ≤ b ∧ b < w.heap.size := HK.out.2
     have hzz := HZ.out
     have bl : ∀ b, b < X2.heap.size → w.heap.size ≤ b → w7.heap[b]? = X2.heap[b]? := (fun b hb hh => hgi.block b hb (fun e => by have := hne b e.symm; omega))
     have r07 := (bl w.heap.size (by omega) (by omega)).trans HX2.out.2.2.1
     have r27 := (bl (w.heap.size + 2) (by omega) (by omega)).trans HX2.out.2.2.2.1
     have rk7 := row_fr HX2.out.1 (FrP.of_row (P := fun k => (Value.slice ip0 m ic0).ownBlock = some k) hgi (fun k hk => hk)) (fun k hk e => LV.apart HX2.out.1 HX2.out.2.1 k hk e)
     have hB7 : Below n0 w w7 := HX2.out.2.2.2.2.2.grown hgi (by omega) (fun b e => (hne b e).1)
     have hz7 := hgi.size
     obtain ⟨y0, y1, y2, y3⟩ := cells4 r07
     have yf : w7.frozen? ⟨w.heap.size, 3, none⟩ = false := by simp [World.frozen?, r07]
     have HF7 := Lib.hid ((HF6.out.trans (FrP.of_none (World.grownBy_alloc w6 (.cells #[.int .i64 c.y.kind, .string Y, .slice c.kp c.y.keys.length c.kc, .slice c.ip c.y.items.length c.ic] 25) none))).trans (FrP.of_row (by rw [hX2]; exact hgi) (fun k hk => .inr (.inl hk))))
     have H7 := Lib.hid (And.intro hi2 (And.intro rk7 (And.intro r07 (And.intro r27 (And.intro hB7 (And.intro hz7 hat2))))))
     clear hi2 rk7 r07 r27 hB7 hgi hat2 hne bl hzz))
 obtain ⟨w8, hw8⟩ : ∃ w8, w7.setCell ⟨w.heap.size, 3, none⟩ (.slice p4 (m + 1) q4) = w8 := ⟨_, rfl⟩
 have hh8 := heap_setCell_self H7.out.2.2.1 3 (.slice p4 (m + 1) q4)
 have gs8 := gb_set w7 w.heap.size 3 (.slice p4 (m + 1) q4)
 rw [hw8] at hh8 gs8 ⊢
 have hh8' : w8.heap[w.heap.size]? = some (.cells #[.int .i64 6, .string ⟨#[]⟩, .slice p2 (n + 1) q2, .slice p4 (m + 1) q4] 25 (0, 0)) := hh8
 have z7 := H7.out.2.2.2.2.2.1
 have z8 := gs8.size
 have hzz := HZ.out
 have ne4' : ∀ k, (Value.slice p4 (m + 1) q4).ownBlock = some k → (Value.slice ip0 m ic0).ownBlock = some k ∨ w.heap.size + 3 ≤ k := fun k hk => by
  rcases H7.out.2.2.2.2.2.2 with e | e
  · rw [e] at hk; exact .inl hk
  · rw [e] at hk; have := Option.some.inj hk; exact .inr (by omega)
 have HF8 := Lib.hid (HF7.out.trans (FrP.of gs8 (.inr (.inr (Nat.le_refl _)))))
 have HN4 := Lib.hid ne4'
 have ne4 : ∀ k, (Value.slice p4 (m + 1) q4).ownBlock = some k → k < w.heap.size ∨ w.heap.size + 3 ≤ k := fun k hk => by
  rcases H7.out.2.2.2.2.2.2 with e | e
  · rw [e] at hk; exact .inl (HK.out.2 k hk).2
  · rw [e] at hk; have := Option.some.inj hk; exact .inr (by omega)
 have ne2 : ∀ k, (Value.slice p2 (n + 1) q2).ownBlock = some k → k < w.heap.size ∨ w.heap.size + 3 ≤ k := fun k hk => by have := HNE.out k hk; omega
 have rk8 := row_fr H7.out.2.1 (FrP.of (P := fun k => k = w.heap.size) gs8 rfl) (fun k hk e => by have := ne2 k hk; omega)
 have ri8 := row_fr H7.out.1 (FrP.of (P := fun k => k = w.heap.size) gs8 rfl) (fun k hk e => by have := ne4 k hk; omega)
 have r28 : JBox w8 (w.heap.size + 2) := ⟨_, _, _, _, (gs8.block (w.heap.size + 2) (by omega) (fun e => by have := Option.some.inj e; omega)).trans H7.out.2.2.2.1⟩
 have hB8 : Below n0 w w8 := H7.out.2.2.2.2.1.grown gs8 (by omega) (fun b e => by have := Option.some.inj e; omega)
 obtain ⟨y0, y1, y2, y3⟩ := cells4 hh8'
 have H8 := Lib.hid (And.intro rk8 (And.intro ri8 (And.intro r28 (And.intro hB8 (And.intro ne2 ne4)))))
 have hz8 : w.heap.size + 3 ≤ w8.heap.size := by omega
 clear ne4' HF6 HF7
 clear hh8 hh8' gs8 rk8 ri8 r28 hB8 ne2 ne4 z7 z8 hzz hw8 H7 v0 v1 v2 v3
 go_wp2_with (first
  | (refine store_val rfl (.tmp 6) (.tmp 19) rfl (w.heap.size + 2) rfl (.int .i64 6) (.string ⟨#[]⟩) (.slice p2 (n + 1) q2) (.slice p4 (m + 1) q4) rfl rfl H8.out.2.2.1 (fun V hV hgV _ => ?_)))
 refine bodyPost_ret (ret_val Tryz.results104 rfl hV) rfl ?_
 have hzV := hgV.size
 refine ⟨p2, q2, p4, q4, rfl, ⟨?_, ?_, by omega⟩, H8.out.2.2.2.1.grown hgV (by omega) (fun b e => by have := Option.some.inj e; omega), fun z hz ha => ⟨(HF8.out.trans (FrP.of hgV (.inr (.inr (by omega))))).block z hz (fun h => ?_), fun k _ _ hk => ?_, fun k _ _ hk => ?_⟩⟩
 · have h9 := row_fr H8.out.1 (FrP.of (P := fun k => k = w.heap.size + 2) hgV rfl) (fun k hk e => by have := H8.out.2.2.2.2.1 k hk; omega)
   rw [List.length_append, strC_snoc, arr_back2, hn]
   exact h9
 · have h9 := row_fr H8.out.2.1 (FrP.of (P := fun k => k = w.heap.size + 2) hgV rfl) (fun k hk e => by have := H8.out.2.2.2.2.2 k hk; omega)
   rw [List.length_append, rowC_snoc, hm]
   have : c.cells = [.int .i64 c.y.kind, .string Y, .slice c.kp c.y.keys.length c.kc, .slice c.ip c.y.items.length c.ic] := by rw [← hY]; rfl
   rw [this]
   exact h9
 · rcases h with h | h | h
   · exact ha.1 z _ _ h rfl
   · exact ha.2 z _ _ h rfl
   · omega
 · rcases HN2.out k (own_any hk) with h | h
   · exact ha.1 k _ _ h
   · have := HZ.out; omega
 · rcases HN4.out k (own_any hk) with h | h
   · exact ha.2 k _ _ h
   · omega
theorem with_leaf {n0 : Nat} {w : World} {ks : List (List UInt8)} {L : List IC} {kp0 : Option Addr} {kc0 : Nat} {ip0 : Option Addr} {ic0 : Nat} (h : OR n0 w ks L kp0 kc0 ip0 ic0) (K : ByteArray) (y : JV) (Y : ByteArray) (hY : (⟨y.str.toArray⟩ : ByteArray) = Y) (hk : y.keys = []) (hi : y.items = []) (n n' m m' : Nat) (hn : ks.length = n) (hn' : n + 1 = n') (hm : L.length = m) (hm' : m + 1 = m') (hn1 : n ≤ 1000) (hm1 : m ≤ 1000) :
 Calls Tryz.prog 104 #[.agg #[.int .i64 6, .string ⟨#[]⟩, .slice kp0 n kc0, .slice ip0 m ic0], .string K, .agg #[.int .i64 y.kind, .string Y, .slice none 0 0, .slice none 0 0]] w fun e w' => ∃ kp kc ip ic, e = .returned (.agg #[.int .i64 6, .string ⟨#[]⟩, .slice kp n' kc, .slice ip m' ic]) ∧ OR n0 w' (ks ++ [K.data.toList]) (L ++ [leafC y]) kp kc ip ic ∧ Below n0 w w' ∧ ∀ z, z < w.heap.size → Ap z kp0 ip0 → w'.heap[z]? = w.heap[z]? ∧ Ap z kp ip := by
 have := with_any h K (leafC y) Y hY n n' m m' hn hn' hm hm' hn1 hm1
 unfold leafC at this ⊢
 dsimp only at this
 rw [hk, hi] at this
 exact this
set_option maxRecDepth 100000 in
set_option maxHeartbeats 4000000 in
theorem begun_any (w : World) : Calls Tryz.prog 103 #[] w fun e w' => ∃ kp kc ip ic, e = .returned (.agg #[.int .i64 6, .string ⟨#[]⟩, .slice kp 1 kc, .slice ip 1 ic]) ∧ OR w.heap.size w' [kVer] L20 kp kc ip ic ∧ Below w.heap.size w w' := by
 obtain ⟨W, hW⟩ : ∃ W, w.alloc (.cells #[.int .i64 0, .string ⟨#[]⟩, .slice none 0 0, .slice none 0 0] 25) = W := ⟨_, rfl⟩
 obtain ⟨X1, hX1⟩ : ∃ X, W.alloc (.cells #[.string ⟨#[106, 115, 111, 110, 114, 112, 99]⟩] 9) = X := ⟨_, rfl⟩
 have bW := alloc_b hW
 have bX := alloc_b hX1
 have zW : W.heap.size = w.heap.size + 1 := by rw [← hW]; simp
 have zX : X1.heap.size = w.heap.size + 2 := by rw [← hX1]; simp; omega
 have r0 := row_of hW X1 bX
 have r1 := row_of hX1 X1 (Below.refl _ _)
 rw [zW] at r1
 have HR := Lib.hid (And.intro r0 (And.intro r1 (Below.on bW bX)))
 have HZ := Lib.hid zX
 clear bW bX r0 r1 zX
 go_enter Tryz.func103, Tryz.ntmps103
 go_wp2_with (first
  | (go_at_call 97; refine (rtxt_any _ _).mono ?_; rintro e w2 ⟨rfl, hb2⟩
     obtain ⟨X2, hX2⟩ : ∃ X, w2.alloc (.cells #[.int .i64 4, .string ⟨#[50, 46, 48]⟩, .slice none 0 0, .slice none 0 0] 25) = X := ⟨_, rfl⟩
     have bX2 := Below.on hb2 (alloc_b hX2)
     have s0 : JBox X2 w.heap.size := ⟨_, _, _, _, (bX2.block _ (ltS HR.out.1)).trans HR.out.1⟩
     have s1 := (bX2.block _ (ltS HR.out.2.1)).trans HR.out.2.1
     have s2 := row_of hX2 X2 (Below.refl _ _)
     have hs2 := hb2.size
     have H2 := Lib.hid (And.intro s0 (And.intro s1 (And.intro s2 (Below.on HR.out.2.2 bX2))))
     clear s0 s1 s2 bX2)
  | (refine store_val rfl (.tmp 0) (.tmp 4) rfl w.heap.size rfl (.int .i64 6) (.string ⟨#[]⟩) (.slice (some ⟨w.heap.size + 1, 0, none⟩) 1 1) (.slice (some ⟨w2.heap.size, 0, none⟩) 1 1) rfl rfl H2.out.1 (fun V hV hgV _ => ?_)))
 refine bodyPost_ret (ret_val Tryz.results103 rfl hV) rfl ?_
 have hz2 := HZ.out
 have hzV := hgV.size
 have hbV := H2.out.2.2.2.size
 have t1 := (hgV.block (w.heap.size + 1) (ltS H2.out.2.1) (fun e => by have := Option.some.inj e; omega)).trans H2.out.2.1
 have t2 := (hgV.block w2.heap.size (ltS H2.out.2.2.1) (fun e => by have := Option.some.inj e; omega)).trans H2.out.2.2.1
 exact ⟨_, _, _, _, rfl, ⟨⟨rfl, .inr ⟨_, 1, _, rfl, by omega, t1, Nat.le_refl _, by decide, rfl, rfl⟩⟩, ⟨rfl, .inr ⟨_, 1, _, rfl, by omega, t2, Nat.le_refl _, by decide, rfl, rfl⟩⟩, by omega⟩, H2.out.2.2.2.grown hgV (by omega) (fun b e => by have := Option.some.inj e; omega)⟩
end Go.Proofs.Rp
/- Q4: emendref24: an object that is begun with an id, beside an alloc; Result. Printed by gen_q4.py. -/
namespace Go.Proofs.Rp
open Go.RowKit Go.Maps Go.Lib Go.Proofs.Utf Go.Proofs.Jt Go.Proofs

theorem store_val2 {op : Oper} {a : Act} {w : World} {K : Act → World → Prop} {Q : Exit → Act → World → Prop} (x y : Operand) (ho : op.op = .store 25 x y) (z : Nat) (hx : a.eval x = .pointer (some ⟨z, 0, none⟩))
 (v0 v1 v2 v3 : Value) (hy : a.eval y = .agg #[v0, v1, v2, v3]) (h1 : (#[v0, v1, v2, v3] : Array Value).all (·.oneCell') = true) (hz : JBox w z)
 (h : ∀ W, W.heap[z]? = some (.cells #[v0, v1, v2, v3] 25 (0, 0)) → w.grownBy W (some z) → W.heap.size = w.heap.size → K (a.put op.dst undef) W) : op.wp Tryz.prog a w K Q := by
 obtain ⟨a0, a1, a2, a3, hz⟩ := hz
 refine wp_store_row 25 x y ho z #[v0, v1, v2, v3] hx hy 25 #[a0, a1, a2, a3] hz (by kernel_rfl) rfl h1 ?_
 exact h _ (heap_setRow_self hz) (gb_setRow _ _ _) (by show (w.heap.modify z _).size = _; rw [Array.size_modify])
abbrev rso0 : Oper := { dst := some 10, op := Op.call { callee := Callee.value (Operand.func 103), args := #[], argTypes := #[] }, type := 25, pos := "ref.go:143", after := #[], guard := none }
abbrev rso1 : Oper := { dst := some 11, op := Op.load 62 (Operand.tmp 2), type := 62, pos := "ref.go:143", after := #[], guard := none }
abbrev rso2 : Oper := { dst := some 12, op := Op.call { callee := Callee.value (Operand.func 105), args := #[Operand.tmp 11], argTypes := #[62] }, type := 25, pos := "ref.go:143", after := #[eDa 1, eCh 0], guard := none }
abbrev rso3 : Oper := { dst := some 13, op := Op.call { callee := Callee.value (Operand.func 104), args := #[Operand.tmp 10, Operand.const (Value.string { data := #[105, 100] }), Operand.tmp 12], argTypes := #[25, 9, 25] }, type := 25, pos := "ref.go:143", after := #[eDa 0, eDa 2, eCh 2], guard := none }
abbrev rso4 : Oper := { dst := some 6, op := Op.alloc 25, type := 0, pos := "ref.go:143", after := #[], guard := none }
abbrev rso5 : Oper := { dst := none, op := Op.store 25 (Operand.tmp 6) (Operand.tmp 13), type := 0, pos := "ref.go:143", after := #[eDa 4, eDa 3, eCh 3, ePh 0, ePh 1, ePh 2, ePh 3, ePh 4], guard := none }
def rsP (i : IdV) (S VS : ByteArray) (zi : Nat) (wz : World) (u0 u1 u3 u4 u5 u7 u8 u9 u14 u15 u16 u17 u18 u19 : Value) : Exit → Act → World → Prop
 | .normal, a', v => ∃ (z : Nat) (kp : Option Addr) (kc : Nat) (ip : Option Addr) (ic : Nat) (xa xd : Value), v.heap[z]? = some (.cells #[.int .i64 6, .string ⟨#[]⟩, .slice kp 2 kc, .slice ip 2 ic] 25 (0, 0)) ∧ OR wz.heap.size v [kVer, kId] [leafC (txtV v20), leafC i.val] kp kc ip ic ∧ Below wz.heap.size wz v ∧ wz.heap.size ≤ z ∧
  a' = { tmps := #[u0, u1, .pointer (some ⟨zi, 0, none⟩), u3, u4, u5, .pointer (some ⟨z, 0, none⟩), u7, u8, u9, xa, .agg #[.int .i64 i.k, .int .i64 i.n, .string S], .agg #[.int .i64 i.val.kind, .string VS, .slice none 0 0, .slice none 0 0], xd, u14, u15, u16, u17, u18, u19], defers := [] }
 | _, _, _ => False
set_option maxRecDepth 100000 in
set_option maxHeartbeats 16000000 in
theorem rsR (i : IdV) (S VS : ByteArray) (hS : (⟨i.s.toArray⟩ : ByteArray) = S) (hVS : (⟨i.val.str.toArray⟩ : ByteArray) = VS) (h0 : -9223372036854775808 ≤ i.n) (h1 : i.n ≤ 9223372036854775807) (zi : Nat) (wz : World) (hzi : wz.heap[zi]? = some (.cells #[.int .i64 i.k, .int .i64 i.n, .string S] 62 (0, 0))) (u0 u1 u3 u4 u5 u6 u7 u8 u9 u10 u11 u12 u13 u14 u15 u16 u17 u18 u19 : Value) :
 Code.wp Tryz.prog (Code.region 3 #[rso0, rso1, rso2, rso3, rso4, rso5] true) (rsP i S VS zi wz u0 u1 u3 u4 u5 u7 u8 u9 u14 u15 u16 u17 u18 u19) { tmps := #[u0, u1, .pointer (some ⟨zi, 0, none⟩), u3, u4, u5, u6, u7, u8, u9, u10, u11, u12, u13, u14, u15, u16, u17, u18, u19], defers := [] } wz := by
 obtain ⟨hvk, hvi⟩ := val_nil i
 have HS : Hid (∀ V, Below wz.heap.size wz V → V.heap[zi]? = some (.cells #[.int .i64 i.k, .int .i64 i.n, .string S] 62 (0, 0))) := Lib.hid fun V hV => (hV.block _ (ltS hzi)).trans hzi
 have HC := Lib.hid (And.intro hS (And.intro hVS (And.intro h0 (And.intro h1 (And.intro hvk hvi)))))
 have hB : Below wz.heap.size wz wz.drew := (Below.refl _ _).drew
 clear hS hVS h0 h1 hvk hvi hzi
 refine wp_region_held_drew (S := fun V => V.heap[zi]? = some (.cells #[.int .i64 i.k, .int .i64 i.n, .string S] 62 (0, 0))) (by kernel_rfl) (HS.out _ hB) (fun hHeld => ?_)
 refine wpAnyH_take (i := 1) (oi := rso1) (v := ?_) rfl (by kernel_rfl) (by kernel_rfl) (by kernel_rfl) (fun _ _ _ h => h) (Or.inl ⟨by rfl, ?_⟩) (by assumption) ?_
 rotate_left
 · unfold rso1; intro wx hS; obtain ⟨i0, i1, i2, _⟩ := cells3 hS; go_simp; with_reducible rfl
 try simp only [Act.put, aSA, aSZ, aSS]
 refine wpAnyH_ready (rs := [0, 4]) (by kernel_rfl) (by simp) (AllReadyH.cons (o := rso0) rfl (fun K hK => ?_) (AllReadyH.cons (o := rso4) rfl (fun K hK => ?_) AllReadyH.nil))
 · unfold rso0
   rw [if_pos (by rfl)]
   go_simp
   go_at_call 103
   refine (begun_any _).mono ?_
   rintro e wa ⟨p1, q1, p2, q2, rfl, hor, hb⟩
   have hn := hB.size
   replace hor := hor.mono hn
   replace hB := Below.on hB hb
   clear hn hb
   refine hK.out _ _ (HS.out _ hB) (fun _ => ?_)
   clear hK K
   try simp only [Act.put, aSA, aSZ, aSS]
   refine wpAnyH_ready (rs := [2, 4]) (by kernel_rfl) (by simp) (AllReadyH.cons (o := rso2) rfl (fun K hK => ?_) (AllReadyH.cons (o := rso4) rfl (fun K hK => ?_) AllReadyH.nil))
   · unfold rso2
     rw [if_pos (by rfl)]
     go_simp
     go_at_call 105
     refine (rvalue24_any i S VS HC.out.1 HC.out.2.1 HC.out.2.2.1 HC.out.2.2.2.1 _).mono ?_
     rintro e wb ⟨rfl, hb⟩
     replace hor := hor.below hb
     replace hB := Below.on hB hb
     clear hb
     refine hK.out _ _ (HS.out _ hB) (fun _ => ?_)
     clear hK K
     try simp only [Act.put, aSA, aSZ, aSS]
     refine wpAnyH_ready (rs := [3, 4]) (by kernel_rfl) (by simp) (AllReadyH.cons (o := rso3) rfl (fun K hK => ?_) (AllReadyH.cons (o := rso4) rfl (fun K hK => ?_) AllReadyH.nil))
     · unfold rso3
       rw [if_pos (by rfl)]
       go_simp
       go_at_call 104
       refine (with_leaf hor ⟨#[105, 100]⟩ i.val VS HC.out.2.1 HC.out.2.2.2.2.1 HC.out.2.2.2.2.2 1 2 1 2 rfl rfl rfl rfl (by decide) (by decide)).mono ?_
       rintro e wc ⟨p3, q3, p4, q4, rfl, hor2, hb, hap⟩
       replace hB := hB.trans hb
       clear hb hap hor
       refine hK.out _ _ (HS.out _ hB) (fun _ => ?_)
       clear hK K
       try simp only [Act.put, aSA, aSZ, aSS]
       refine wpAnyH_ready (rs := [4]) (by kernel_rfl) (by simp) (AllReadyH.cons (o := rso4) rfl (fun K hK => ?_) AllReadyH.nil)
       unfold rso4
       rw [if_pos (by rfl)]
       go_simp
       have ba : Below wc.heap.size wc (wc.alloc (.cells #[.int .i64 0, .string ⟨#[]⟩, .slice none 0 0, .slice none 0 0] 25)) := (Below.refl _ _).alloc (Nat.le_refl _) _
       have hJ : JBox (wc.alloc (.cells #[.int .i64 0, .string ⟨#[]⟩, .slice none 0 0, .slice none 0 0] 25)) wc.heap.size := JBox.alloc _ _ _ _ _
       have hzl := hJ.lt
       have hzn : wz.heap.size ≤ wc.heap.size := hB.size
       have hza2 : Ap wc.heap.size p3 p4 := hor2.ap (.inr (Nat.le_refl _))
       replace hor2 := hor2.below ba
       replace hB := Below.on hB ba
       clear ba
       refine hK.out _ _ (HS.out _ hB) (fun _ => ?_)
       clear hK K
       try simp only [Act.put, aSA, aSZ, aSS]
       refine wpAnyH_ready (rs := [5]) (by kernel_rfl) (by simp) (AllReadyH.cons (o := rso5) rfl (fun K hK => ?_) AllReadyH.nil)
       unfold rso5
       rw [if_pos (by rfl)]
       refine store_val2 (.tmp 6) (.tmp 13) rfl _ rfl (.int .i64 6) (.string ⟨#[]⟩) (.slice p3 2 q3) (.slice p4 2 q4) rfl (by simp [Value.oneCell']) hJ (fun V hV hgV _ => ?_)
       have hor3 : OR wz.heap.size V [kVer, kId] [leafC (txtV v20), leafC i.val] p3 q3 p4 q4 := hor2.set hgV hza2
       replace hB : Below wz.heap.size wz V := below_gbz hB hzn hgV
       refine hK.out _ _ (HS.out _ hB) (fun _ => ?_)
       clear hK K
       try simp only [Act.put]
       refine wpAnyH_done (by kernel_rfl) ?_ _
       exact ⟨_, p3, q3, p4, q4, _, _, hV, hor3, hB, hzn, rfl⟩
     · unfold rso4
       rw [if_pos (by rfl)]
       go_simp
       have ba : Below wb.heap.size wb (wb.alloc (.cells #[.int .i64 0, .string ⟨#[]⟩, .slice none 0 0, .slice none 0 0] 25)) := (Below.refl _ _).alloc (Nat.le_refl _) _
       have hJ : JBox (wb.alloc (.cells #[.int .i64 0, .string ⟨#[]⟩, .slice none 0 0, .slice none 0 0] 25)) wb.heap.size := JBox.alloc _ _ _ _ _
       have hzl := hJ.lt
       have hzn : wz.heap.size ≤ wb.heap.size := hB.size
       have hza : Ap wb.heap.size p1 p2 := hor.ap (.inr (Nat.le_refl _))
       replace hor := hor.below ba
       replace hB := Below.on hB ba
       clear ba
       refine hK.out _ _ (HS.out _ hB) (fun _ => ?_)
       clear hK K
       try simp only [Act.put, aSA, aSZ, aSS]
       refine wpAnyH_ready (rs := [3]) (by kernel_rfl) (by simp) (AllReadyH.cons (o := rso3) rfl (fun K hK => ?_) AllReadyH.nil)
       unfold rso3
       rw [if_pos (by rfl)]
       go_simp
       go_at_call 104
       refine (with_leaf hor ⟨#[105, 100]⟩ i.val VS HC.out.2.1 HC.out.2.2.2.2.1 HC.out.2.2.2.2.2 1 2 1 2 rfl rfl rfl rfl (by decide) (by decide)).mono ?_
       rintro e wc ⟨p3, q3, p4, q4, rfl, hor2, hb, hap⟩
       obtain ⟨hzb, hza2⟩ := hap _ hzl hza
       replace hJ := hJ.same hzb
       replace hzl := hJ.lt
       replace hB := hB.trans hb
       clear hb hap hor
       refine hK.out _ _ (HS.out _ hB) (fun _ => ?_)
       clear hK K
       try simp only [Act.put, aSA, aSZ, aSS]
       refine wpAnyH_ready (rs := [5]) (by kernel_rfl) (by simp) (AllReadyH.cons (o := rso5) rfl (fun K hK => ?_) AllReadyH.nil)
       unfold rso5
       rw [if_pos (by rfl)]
       refine store_val2 (.tmp 6) (.tmp 13) rfl _ rfl (.int .i64 6) (.string ⟨#[]⟩) (.slice p3 2 q3) (.slice p4 2 q4) rfl (by simp [Value.oneCell']) hJ (fun V hV hgV _ => ?_)
       have hor3 : OR wz.heap.size V [kVer, kId] [leafC (txtV v20), leafC i.val] p3 q3 p4 q4 := hor2.set hgV hza2
       replace hB : Below wz.heap.size wz V := below_gbz hB hzn hgV
       refine hK.out _ _ (HS.out _ hB) (fun _ => ?_)
       clear hK K
       try simp only [Act.put]
       refine wpAnyH_done (by kernel_rfl) ?_ _
       exact ⟨_, p3, q3, p4, q4, _, _, hV, hor3, hB, hzn, rfl⟩
   · unfold rso4
     rw [if_pos (by rfl)]
     go_simp
     have ba : Below wa.heap.size wa (wa.alloc (.cells #[.int .i64 0, .string ⟨#[]⟩, .slice none 0 0, .slice none 0 0] 25)) := (Below.refl _ _).alloc (Nat.le_refl _) _
     have hJ : JBox (wa.alloc (.cells #[.int .i64 0, .string ⟨#[]⟩, .slice none 0 0, .slice none 0 0] 25)) wa.heap.size := JBox.alloc _ _ _ _ _
     have hzl := hJ.lt
     have hzn : wz.heap.size ≤ wa.heap.size := hB.size
     have hza : Ap wa.heap.size p1 p2 := hor.ap (.inr (Nat.le_refl _))
     replace hor := hor.below ba
     replace hB := Below.on hB ba
     clear ba
     refine hK.out _ _ (HS.out _ hB) (fun _ => ?_)
     clear hK K
     try simp only [Act.put, aSA, aSZ, aSS]
     refine wpAnyH_ready (rs := [2]) (by kernel_rfl) (by simp) (AllReadyH.cons (o := rso2) rfl (fun K hK => ?_) AllReadyH.nil)
     unfold rso2
     rw [if_pos (by rfl)]
     go_simp
     go_at_call 105
     refine (rvalue24_any i S VS HC.out.1 HC.out.2.1 HC.out.2.2.1 HC.out.2.2.2.1 _).mono ?_
     rintro e wb ⟨rfl, hb⟩
     replace hJ := hJ.same (hb.block _ hzl)
     replace hzl := Nat.lt_of_lt_of_le hzl hb.size
     replace hor := hor.below hb
     replace hB := Below.on hB hb
     clear hb
     refine hK.out _ _ (HS.out _ hB) (fun _ => ?_)
     clear hK K
     try simp only [Act.put, aSA, aSZ, aSS]
     refine wpAnyH_ready (rs := [3]) (by kernel_rfl) (by simp) (AllReadyH.cons (o := rso3) rfl (fun K hK => ?_) AllReadyH.nil)
     unfold rso3
     rw [if_pos (by rfl)]
     go_simp
     go_at_call 104
     refine (with_leaf hor ⟨#[105, 100]⟩ i.val VS HC.out.2.1 HC.out.2.2.2.2.1 HC.out.2.2.2.2.2 1 2 1 2 rfl rfl rfl rfl (by decide) (by decide)).mono ?_
     rintro e wc ⟨p3, q3, p4, q4, rfl, hor2, hb, hap⟩
     obtain ⟨hzb, hza2⟩ := hap _ hzl hza
     replace hJ := hJ.same hzb
     replace hzl := hJ.lt
     replace hB := hB.trans hb
     clear hb hap hor
     refine hK.out _ _ (HS.out _ hB) (fun _ => ?_)
     clear hK K
     try simp only [Act.put, aSA, aSZ, aSS]
     refine wpAnyH_ready (rs := [5]) (by kernel_rfl) (by simp) (AllReadyH.cons (o := rso5) rfl (fun K hK => ?_) AllReadyH.nil)
     unfold rso5
     rw [if_pos (by rfl)]
     refine store_val2 (.tmp 6) (.tmp 13) rfl _ rfl (.int .i64 6) (.string ⟨#[]⟩) (.slice p3 2 q3) (.slice p4 2 q4) rfl (by simp [Value.oneCell']) hJ (fun V hV hgV _ => ?_)
     have hor3 : OR wz.heap.size V [kVer, kId] [leafC (txtV v20), leafC i.val] p3 q3 p4 q4 := hor2.set hgV hza2
     replace hB : Below wz.heap.size wz V := below_gbz hB hzn hgV
     refine hK.out _ _ (HS.out _ hB) (fun _ => ?_)
     clear hK K
     try simp only [Act.put]
     refine wpAnyH_done (by kernel_rfl) ?_ _
     exact ⟨_, p3, q3, p4, q4, _, _, hV, hor3, hB, hzn, rfl⟩
 · unfold rso4
   rw [if_pos (by rfl)]
   go_simp
   have ba : Below wz.drew.heap.size wz.drew (wz.drew.alloc (.cells #[.int .i64 0, .string ⟨#[]⟩, .slice none 0 0, .slice none 0 0] 25)) := (Below.refl _ _).alloc (Nat.le_refl _) _
   have hJ : JBox (wz.drew.alloc (.cells #[.int .i64 0, .string ⟨#[]⟩, .slice none 0 0, .slice none 0 0] 25)) wz.drew.heap.size := JBox.alloc _ _ _ _ _
   have hzl := hJ.lt
   have hzn : wz.heap.size ≤ wz.drew.heap.size := hB.size
   replace hB := Below.on hB ba
   clear ba
   refine hK.out _ _ (HS.out _ hB) (fun _ => ?_)
   clear hK K
   try simp only [Act.put, aSA, aSZ, aSS]
   refine wpAnyH_ready (rs := [0]) (by kernel_rfl) (by simp) (AllReadyH.cons (o := rso0) rfl (fun K hK => ?_) AllReadyH.nil)
   unfold rso0
   rw [if_pos (by rfl)]
   go_simp
   go_at_call 103
   refine (begun_any _).mono ?_
   rintro e wa ⟨p1, q1, p2, q2, rfl, hor, hb⟩
   have hn := hB.size
   have hza : Ap _ p1 p2 := hor.ap (.inl hzl)
   replace hJ := hJ.same (hb.block _ hzl)
   replace hzl := Nat.lt_of_lt_of_le hzl hb.size
   replace hor := hor.mono hn
   replace hB := Below.on hB hb
   clear hn hb
   refine hK.out _ _ (HS.out _ hB) (fun _ => ?_)
   clear hK K
   try simp only [Act.put, aSA, aSZ, aSS]
   refine wpAnyH_ready (rs := [2]) (by kernel_rfl) (by simp) (AllReadyH.cons (o := rso2) rfl (fun K hK => ?_) AllReadyH.nil)
   unfold rso2
   rw [if_pos (by rfl)]
   go_simp
   go_at_call 105
   refine (rvalue24_any i S VS HC.out.1 HC.out.2.1 HC.out.2.2.1 HC.out.2.2.2.1 _).mono ?_
   rintro e wb ⟨rfl, hb⟩
   replace hJ := hJ.same (hb.block _ hzl)
   replace hzl := Nat.lt_of_lt_of_le hzl hb.size
   replace hor := hor.below hb
   replace hB := Below.on hB hb
   clear hb
   refine hK.out _ _ (HS.out _ hB) (fun _ => ?_)
   clear hK K
   try simp only [Act.put, aSA, aSZ, aSS]
   refine wpAnyH_ready (rs := [3]) (by kernel_rfl) (by simp) (AllReadyH.cons (o := rso3) rfl (fun K hK => ?_) AllReadyH.nil)
   unfold rso3
   rw [if_pos (by rfl)]
   go_simp
   go_at_call 104
   refine (with_leaf hor ⟨#[105, 100]⟩ i.val VS HC.out.2.1 HC.out.2.2.2.2.1 HC.out.2.2.2.2.2 1 2 1 2 rfl rfl rfl rfl (by decide) (by decide)).mono ?_
   rintro e wc ⟨p3, q3, p4, q4, rfl, hor2, hb, hap⟩
   obtain ⟨hzb, hza2⟩ := hap _ hzl hza
   replace hJ := hJ.same hzb
   replace hzl := hJ.lt
   replace hB := hB.trans hb
   clear hb hap hor
   refine hK.out _ _ (HS.out _ hB) (fun _ => ?_)
   clear hK K
   try simp only [Act.put, aSA, aSZ, aSS]
   refine wpAnyH_ready (rs := [5]) (by kernel_rfl) (by simp) (AllReadyH.cons (o := rso5) rfl (fun K hK => ?_) AllReadyH.nil)
   unfold rso5
   rw [if_pos (by rfl)]
   refine store_val2 (.tmp 6) (.tmp 13) rfl _ rfl (.int .i64 6) (.string ⟨#[]⟩) (.slice p3 2 q3) (.slice p4 2 q4) rfl (by simp [Value.oneCell']) hJ (fun V hV hgV _ => ?_)
   have hor3 : OR wz.heap.size V [kVer, kId] [leafC (txtV v20), leafC i.val] p3 q3 p4 q4 := hor2.set hgV hza2
   replace hB : Below wz.heap.size wz V := below_gbz hB hzn hgV
   refine hK.out _ _ (HS.out _ hB) (fun _ => ?_)
   clear hK K
   try simp only [Act.put]
   refine wpAnyH_done (by kernel_rfl) ?_ _
   exact ⟨_, p3, q3, p4, q4, _, _, hV, hor3, hB, hzn, rfl⟩
set_option maxRecDepth 100000 in
set_option maxHeartbeats 8000000 in
theorem rresult_any {w : World} (i : IdV) (S : ByteArray) (hS : (⟨i.s.toArray⟩ : ByteArray) = S) (h0 : -9223372036854775808 ≤ i.n) (h1 : i.n ≤ 9223372036854775807) (his : i.s.length ≤ 10000)
 {v : JV} {T : ByteArray} {kp ip : Option Addr} {kc ic : Nat} (hK : KI w v kp kc ip ic) (hwt : v.wt ≤ 10000) (hT2 : (⟨v.str.toArray⟩ : ByteArray) = T) (X : ByteArray) (n : Nat) (hr : resV i v = (X.data.toList, n)) :
 Calls Tryz.prog 44 #[.agg #[.int .i64 i.k, .int .i64 i.n, .string S], .agg #[.int .i64 v.kind, .string T, .slice kp v.keys.length kc, .slice ip v.items.length ic]] w fun e w' => e = .returned (.tuple #[.string X, .int .i64 n]) ∧ Below w.heap.size w w' := by
 obtain ⟨W1, hW1⟩ : ∃ W, w.alloc (.cells #[.int .i64 i.k, .int .i64 i.n, .string S] 62) = W := ⟨_, rfl⟩
 obtain ⟨W, hW⟩ : ∃ W, W1.alloc (.cells #[.int .i64 v.kind, .string T, .slice kp v.keys.length kc, .slice ip v.items.length ic] 25) = W := ⟨_, rfl⟩
 have bW1 := alloc_b hW1
 have bW2 := alloc_b hW
 have bW := Below.on bW1 bW2
 have hz1 : W1.heap.size = w.heap.size + 1 := by rw [← hW1]; simp
 have hri : ∀ V, Below W.heap.size W V → _ := fun V hV => row_of hW1 V (Below.on bW2 hV)
 have hbv := box_of hW
 rw [hz1] at hbv
 have HI := Lib.hid hri
 have HV := Lib.hid hbv
 have HK : Hid (∀ V, Below W.heap.size W V → KI V v kp kc ip ic) := Lib.hid fun V hV => hK.stay (Below.on bW hV)
 have HBW := Lib.hid bW
 subst hW1
 obtain ⟨c0, c1, c2, _⟩ := cells3 (hri W (Below.refl _ _))
 have hmay := rmay_any i S hS W
 cases hm : i.may with
 | false =>
  have hr2 : X = ⟨#[]⟩ ∧ n = 2 := by
   unfold resV at hr
   rw [if_neg (by rw [hm]; simp)] at hr
   exact ⟨ByteArray.ext (Array.toList_inj.1 (congrArg Prod.fst hr).symm), (congrArg Prod.snd hr).symm⟩
  obtain ⟨rfl, rfl⟩ := hr2
  rw [hm] at hmay
  clear hm hr hri hbv hz1 bW bW1 bW2 hK hS hT2 hwt
  go_enter Tryz.func44, Tryz.ntmps44
  go_wp2_with (first | (go_at_call 102; refine hmay.mono ?_; rintro e w1 ⟨rfl, hb1⟩))
  go_ret2
  exact ⟨rfl, Below.on HBW.out hb1⟩
 | true =>
  rw [hm] at hmay
  have hput : putV (resO i v) = (X.data.toList, n) := by
   unfold resV at hr
   rwa [if_pos hm] at hr
  obtain ⟨VS, hVS⟩ : ∃ B : ByteArray, (⟨i.val.str.toArray⟩ : ByteArray) = B := ⟨_, rfl⟩
  obtain ⟨hvk, hvi⟩ := val_nil i
  obtain ⟨hvw, hvl⟩ := val_wt h0 h1
  have HPUT := Lib.hid hput
  have HS := Lib.hid (And.intro hS (And.intro hVS hT2))
  have HN := Lib.hid (And.intro hvk hvi)
  have HBD := Lib.hid (And.intro h0 h1)
  have HWT : Hid ((resO i v).wt ≤ 100000 ∧ i.val.str.length ≤ maxLen ∧ v.str.length ≤ maxLen) := Lib.hid (by
   have := str_wt v
   refine ⟨?_, ?_, ?_⟩
   · unfold resO
     rw [JV.wt]
     simp only [keysW, wtL, kVer, kId, kResult, List.length_cons, List.length_nil]
     have : (txtV v20).wt = 4 := rfl
     omega
   · unfold maxLen; omega
   · unfold maxLen; omega)
  clear hm hr hput hvk hvi hvw hvl h0 h1 hS hVS hT2 hwt hri hbv hz1 bW bW1 bW2 hK
  go_enter Tryz.func44, Tryz.ntmps44
  go_upto_region 3 with (first
   | (go_at_call 102; refine hmay.mono ?_; rintro e w1 ⟨rfl, hb1⟩))
  clear c0 c1 c2
  refine Code.wp_mono ?_ (rsR i S VS HS.out.1 HS.out.2.1 HBD.out.1 HBD.out.2 w.heap.size w1 (HI.out w1 hb1) _ _ _ _ _ _ _ _ _ _ _ _ _ _ _ _ _ _ _)
  intro e a' w3 h
  cases e with
  | normal =>
   obtain ⟨z, p3, q3, p4, q4, xa, xd, hz, hor, hb3, hzl, rfl⟩ := h
   obtain ⟨o0, o1, o2, o3⟩ := cells4 hz
   have b3 := Below.on hb1 hb3
   obtain ⟨d0, d1, d2, d3⟩ := HV.out w3 b3
   have hwi := with_any hor ⟨#[114, 101, 115, 117, 108, 116]⟩ ⟨v, kp, kc, ip, ic⟩ T HS.out.2.2 2 3 2 3 rfl rfl rfl rfl (by decide) (by decide)
   clear hz hor
   have HB3 := Lib.hid (And.intro hb3 (And.intro b3 hzl))
   clear hb3 b3 hzl
   go_wp2_with (first
    | (go_at_call 104; refine hwi.mono ?_; rintro e w4 ⟨p5, q5, p6, q6, rfl, hor4, hb4, _⟩
       have b4 : Below w1.heap.size w1 w4 := HB3.out.1.trans hb4
       have hki : KI w4 (resO i v) p5 q5 p6 q6 := hor4.ki (fun c hc => (by
        simp only [List.mem_cons, List.not_mem_nil, or_false, List.mem_append] at hc
        rcases hc with (rfl | rfl) | rfl
        · exact leaf_ok rfl rfl (by decide)
        · exact leaf_ok HN.out.1 HN.out.2 HWT.out.2.1
        · exact ⟨HK.out w4 (Below.on hb1 b4), HWT.out.2.2⟩)) ⟨(by show 3 ≤ maxLen; decide), by show 3 ≤ maxLen; decide, keys_short (by decide)⟩
       have h106 : Calls Tryz.prog 106 #[.agg #[.int .i64 6, .string ⟨#[]⟩, .slice p5 3 q5, .slice p6 3 q6]] w4 fun e w'' => e = .returned (.tuple #[.string X, .int .i64 (n : Nat)]) ∧ Below w4.heap.size w4 w'' := rput_is hki HWT.out.1 (S := ⟨#[]⟩) rfl HPUT.out w4 (Below.refl _ _)
       clear hor4 hki hwi)
    | (go_at_call 106; refine h106.mono ?_; rintro e w5 ⟨rfl, hb5⟩))
   go_ret2
   exact ⟨rfl, Below.on HBW.out (Below.on (Below.on hb1 b4) hb5)⟩
  | exit _ => exact h.elim
  | goto _ => exact h.elim
  | ret => exact h.elim
  | panic _ => exact h.elim
  | outgrown => exact h.elim
end Go.Proofs.Rp
