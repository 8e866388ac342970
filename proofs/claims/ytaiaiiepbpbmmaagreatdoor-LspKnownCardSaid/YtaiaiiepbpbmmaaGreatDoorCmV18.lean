/- The reader: an item (the closure of array). -/
import Derived.Test.YtaiaiiepbpbmmaaGreatDoorCmV17
import Derived.Test.YtaiaiiepbpbmmaaGreatDoorCmVZ
namespace Go.Proofs.Jt
open Go.RowKit Go.Maps Go.Lib Go.Proofs.Utf Go.Proofs

theorem form45 {w : World} {lo n : Nat} {v : Value} {xs : List Value} (h : w.ownsRow lo 25 4 v (n + 1) xs) : ∃ g cap, v = .slice (some ⟨g, 0, none⟩) (n + 1) cap ∧ lo ≤ g ∧ g < w.heap.size := by
 rcases h.2 with ⟨_, h⟩ | ⟨g, cap, cur, rfl, h1, h2, _⟩
 · cases h
 · exact ⟨g, cap, rfl, h1, (ltS h2)⟩
theorem rowC_len : ∀ L : List IC, (rowC L).length = L.length * 4
 | [] => rfl
 | c :: t => by
  show (c.cells ++ rowC t).length = _
  rw [List.length_append, rowC_len t, List.length_cons]
  show 4 + _ = _
  omega
theorem wp_store_el {o : Oper} {a : Act} {w : World} {K : Act → World → Prop} {Q : Exit → Act → World → Prop} (x y : Operand) (ho : o.op = .store 25 x y) (g off : Nat) (v0 v1 v2 v3 : Value)
 (hx : a.eval x = .pointer (some ⟨g, off, none⟩)) (hy : a.eval y = .agg #[v0, v1, v2, v3]) (ht : w.there g off 4) (h1 : (#[v0, v1, v2, v3] : Array Value).all (·.oneCell') = true)
 (h : ∀ W, Hid (W = w.setCells g off [v0, v1, v2, v3]) → K (a.put o.dst undef) W) : o.wp Tryz.prog a w K Q :=
 wp_store_mid 25 x y ho g off #[v0, v1, v2, v3] hx hy ht (by kernel_rfl) h1 (h _ (Lib.hid rfl))
theorem array_end {fx : List (Nat × Obj)} {w0 w w5 w6 w61 w7 W9 : World} {R vb M lo N n : Nat} {K : List KT} {tw : Bool} {ks : List (List UInt8)} {it : List JV} {L : List IC} {kv iv iv2 : Value} {vk : Int} {vS : ByteArray} {vp vp' : Option Addr} {vn vc vn' vc' : Nat}
 (hs : LS fx w0 R vb M lo) (h : LG false fx w0 R vb M lo N w K tw ks it) (hLV : LV w vb lo 5 [] L kv iv) (hLm : L.map (·.y) = it) (hvp : VP w5 R tw (valP n K) vk vS vp vn vc vp' vn' vc' w6)
 (g5 : w.grownBy w5 none) (g61 : w6.grownBy w61 none) (hgi : w61.grownBy w7 iv.ownBlock) (hat2 : iv2.ownBlock = iv.ownBlock ∨ iv2.ownBlock = some w61.heap.size)
 (hd9 : W9.heap[vb]? = some (.cells #[.int .i64 5, .string ⟨#[]⟩, kv, iv2] 25 (0, 0))) (hr9 : W9.ownsRow lo 25 4 iv2 (L.length + 1) (rowC L ++ [.int .i64 vk, .string vS, .slice vp vn vc, .slice vp' vn' vc'])) (F9 : FrP (fun k => k = vb ∨ iv2.ownBlock = some k) w7 W9) :
 lo ≤ W9.heap.size ∧ (∀ v r3, valP n K = some (v, r3) → LG false fx w0 R vb M lo N W9 r3 (tw || v.dup) (ks ++ [[]]) (it ++ [v])) ∧ (valP n K = none → LB fx w0 R vb W9) := by
 have h1 := hs.rlt
 have h2 := hs.vlt
 have s0 := h.sz
 have s5 := g5.size
 have s6 := hvp.gb.size
 have s61 := g61.size
 have hil : ∀ b, iv.ownBlock = some b → lo ≤ b := fun b hb => (row_lt hLV.ri hb).1
 have hi2l : ∀ b, iv2.ownBlock = some b → lo ≤ b := fun b hb => (row_lt hr9 hb).1
 have F67 : FrP (fun k => lo ≤ k) w6 w7 := (FrP.of_none g61).trans (FrP.of_row hgi hil)
 have F69 : FrP (fun k => k = vb ∨ lo ≤ k) w6 W9 := (F67.mono fun k _ hk => .inr hk).trans (F9.mono fun k _ hk => hk.imp id (hi2l k))
 have FT : FrP (ClP R vb M lo) w W9 := (FrP.of_none g5).trans ((FrP.of hvp.gb (.inl rfl)).trans (F69.mono fun k _ hk => by unfold ClP; omega))
 have hsz := Nat.le_trans s0 FT.size
 have hend : ∀ {K' : List KT} {b' t' : Bool}, RD w6 R K' b' t' → RD W9 R K' b' t' := fun hr => hr.fr F69 fun k hk => by omega
 refine ⟨hsz, fun v r3 hv => ?_, fun hv => ?_⟩
 · obtain ⟨q1, q2, q3, q4⟩ := hvp.good v r3 hv
   have hcells : (IC.cells ⟨v, vp, vc, vp', vc'⟩) = [.int .i64 vk, .string vS, .slice vp vn vc, .slice vp' vn' vc'] := by
    unfold jval at q2
    injection q2 with q2
    exact Array.toList_inj.2 q2
   have hadd := LV.addA (c := ⟨v, vp, vc, vp', vc'⟩) hLV (by omega) h2.2 s0 g5 hvp.gb g61 hgi hat2 hd9 (by rw [hcells]; exact hr9) F9 ⟨q3, q4⟩
   have hwt := h.wt
   have hvw := (val_wt n).1 _ _ _ hv
   refine ⟨gb_cl hs h.fr FT, hend q1, fx_cl hs h.fx FT, ⟨_, kv, iv2, hadd, by rw [List.map_append, hLm]; rfl⟩, fun h => (by cases h), ?_, hsz⟩
   simp only [wtL_append, wtL, Bool.false_eq_true, if_false] at hwt ⊢
   omega
 · obtain ⟨K', tw', hr⟩ := hvp.bad hv
   obtain ⟨p1, c1, e1⟩ := row_form hLV.rk
   obtain ⟨p2, c2, e2⟩ := row_form hr9
   rw [e1, e2] at hd9
   exact ⟨gb_cl hs h.fr FT, ⟨K', tw', hend hr⟩, fx_cl hs h.fx FT, 5, _, _, _, _, _, _, _, hd9⟩
set_option maxRecDepth 100000 in
set_option maxHeartbeats 4000000 in
theorem array_one {fx : List (Nat × Obj)} {w0 : World} {R vb M lo N ob n : Nat} (hs : LS fx w0 R vb M lo) (hob : (ob, Obj.cells #[.func (.func 112) #[.pointer (some ⟨R, 0, none⟩)] #[]] 121 (0, 0)) ∈ fx) (hN : N ≤ 100000000) (IH : ValC n)
 {w : World} {K : List KT} {tw : Bool} {ks : List (List UInt8)} {it : List JV} (h : LG false fx w0 R vb M lo N w K tw ks it) (hn : 2 * K.length + 1 ≤ n) :
 Calls Tryz.prog 211 #[.pointer (some ⟨vb, 0, none⟩), .pointer (some ⟨ob, 0, none⟩)] w fun e w' => e = .returned (.tuple #[]) ∧ lo ≤ w'.heap.size ∧
  (∀ v r3, valP n K = some (v, r3) → LG false fx w0 R vb M lo N w' r3 (tw || v.dup) (ks ++ [[]]) (it ++ [v])) ∧
  (valP n K = none → LB fx w0 R vb w') := by
 have hRlo : R < lo := by have := hs.rlt; have := hs.vlt; omega
 have hvlo := hs.vlt.2
 have hvR : vb ≠ R := by have := hs.rlt; have := hs.vlt; omega
 have co := h.fx _ hob
 have hwt := h.wt
 obtain ⟨L, kv, iv, hLV0, hLm⟩ := h.v
 have hLV : LV w vb lo 5 [] L kv iv := hLV0
 have hkw : kw K ≤ 100000000 := by omega
 have hLl : L.length ≤ 100000000 := by
  have h2 := items_len it
  rw [← hLm, List.length_map] at h2
  rw [hLm] at h2
  omega
 have HVC : Hid (∀ w5, RD w5 R K false tw → Calls Tryz.prog 112 #[.pointer (some ⟨R, 0, none⟩)] w5 (ValPost w5 R tw (valP n K))) := Lib.hid fun w5 hr => IH w5 R K tw hr hkw hn
 have HS4 : Hid (∀ wx, FrP (fun k => k = R ∨ lo ≤ k) w wx → wx.cell? ⟨ob, 0, none⟩ = some (.func (.func 112) #[.pointer (some ⟨R, 0, none⟩)] #[]) ∧ wx.cell? ⟨vb, 3, none⟩ = some iv ∧ wx.frozen? ⟨vb, 3, none⟩ = false) := Lib.hid fun wx hw => by
  have f1 := hs.flt _ hob
  have f2 := hs.rlt
  have e1 := (hw.block ob (ltS co) (by dsimp only at f1; omega)).trans co
  have e2 := (hw.block vb (ltS hLV.hd) (by omega)).trans hLV.hd
  exact ⟨box_cell e1, by simp [World.cell?, e2], by simp [World.frozen?, e2]⟩
 obtain ⟨i45_, hi45, hz450, hz451, hz452⟩ := info_parts info45
 have hri : w.drew.ownsRow lo 25 4 iv L.length (rowC L) := hLV.ri
 have hrd : RD w.drew R K false tw := h.rd
 have F0 : FrP (fun k => k = R ∨ lo ≤ k) w w.drew := (FrP.refl _ _).drew
 have hlod : lo ≤ w.drew.heap.size := h.sz
 have hlow : lo ≤ w.heap.size := h.sz
 have HG := Lib.hid h
 have HH := Lib.hid hLV
 have HLm := Lib.hid hLm
 obtain ⟨pv, cv, rfl⟩ := row_form hLV.ri
 clear hLV hLV0 hLm h co hwt
 go_enter Tryz.func211, Tryz.ntmps211
 go_upto_region 0 with fail
 refine wp_region_late (S := fun v => v.cell? ⟨ob, 0, none⟩ = some (.func (.func 112) #[.pointer (some ⟨R, 0, none⟩)] #[]) ∧ v.cell? ⟨vb, 3, none⟩ = some (.slice pv L.length cv) ∧ v.frozen? ⟨vb, 3, none⟩ = false) 10 (by kernel_rfl) (HS4.out _ F0) (fun hHeld => ?_)
 refine wpAnyU_take (i := 0) (oi := { dst := some 2, op := Op.fieldAddr 25 (Operand.tmp 0) 3, type := 0, pos := "json.go:148", after := #[], guard := none }) (v := ?_) [1, 4, 6, 7, 8, 9, 10] rfl (by kernel_rfl) (by kernel_rfl) (by kernel_rfl) (by kernel_rfl) (fun _ _ _ h => h) (Or.inl ⟨by rfl, ?_⟩) (by assumption) ?_
 rotate_left
 · intro w hS; obtain ⟨hS0, hS1, _⟩ := hS; go_simp; with_reducible rfl
 try simp only [Act.put, aSA, aSZ, aSS]
 refine wpAnyU_take (i := 1) (oi := { dst := some 3, op := Op.load 23 (Operand.tmp 2), type := 23, pos := "json.go:148", after := #[eDa 0], guard := none }) (v := ?_) [4, 6, 7, 8, 9, 10] rfl (by kernel_rfl) (by kernel_rfl) (by kernel_rfl) (by kernel_rfl) (fun _ _ _ h => h) (Or.inl ⟨by rfl, ?_⟩) (by assumption) ?_
 rotate_left
 · intro w hS; obtain ⟨hS0, hS1, _⟩ := hS; go_simp; with_reducible rfl
 try simp only [Act.put, aSA, aSZ, aSS]
 refine wpAnyU_take (i := 2) (oi := { dst := some 4, op := Op.load 121 (Operand.tmp 1), type := 121, pos := "json.go:148", after := #[], guard := none }) (v := ?_) [3, 6, 7, 8, 9, 10] rfl (by kernel_rfl) (by kernel_rfl) (by kernel_rfl) (by kernel_rfl) (fun _ _ _ h => h) (Or.inl ⟨by rfl, ?_⟩) (by assumption) ?_
 rotate_left
 · intro w hS; obtain ⟨hS0, hS1, _⟩ := hS; go_simp; with_reducible rfl
 try simp only [Act.put, aSA, aSZ, aSS]
 refine wpAnyU_pure (i := 4) (oi := { dst := some 6, op := Op.call { callee := Callee.builtin Builtin.len, args := #[Operand.tmp 3], argTypes := #[23] }, type := 3, pos := "json.go:148", after := #[eDa 1], guard := none }) (v := ?_) rfl (by kernel_rfl) (by kernel_rfl) (by kernel_rfl) (by kernel_rfl) (fun _ _ _ h => h) (Or.inl ⟨by rfl, ?_⟩) (fun _ => by assumption) ?_
 rotate_left
 · intro w _; go_simp; with_reducible rfl
 try simp only [Act.put, aSA, aSZ, aSS]
 refine wpAnyU_ready (rs := [3, 5]) (by kernel_rfl) (by simp) (AllReadyU.cons (o := { dst := some 5, op := Op.call { callee := Callee.value (Operand.tmp 4), args := #[], argTypes := #[] }, type := 25, pos := "json.go:148", after := #[eDa 2], guard := none }) rfl (fun K hK => ?_) (AllReadyU.cons (o := { dst := some 7, op := Op.buildSlice 23 1 #[(0, Operand.const (Value.agg #[Value.int IntKind.i64 0, Value.string { data := #[] }, Value.slice none 0 0, Value.slice none 0 0]))], type := 23, pos := "json.go:148", after := #[], guard := none }) rfl (fun K hK => ?_) AllReadyU.nil))
 · rw [if_pos (by rfl)]
   go_simp
   (go_at_call 112; refine (HVC.out _ hrd).mono ?_; rintro e w6 ⟨vk, vS, vp, vn, vc, vp', vn', vc', rfl, hvp⟩; have F6 := F0.trans (FrP.of hvp.gb (.inl rfl)); have hri6 := row_fr hri (FrP.of (P := fun k => k = R) hvp.gb rfl) (fun k hk e => by have := (hri.lt k hk).1; omega))
   refine hK.out _ _ (fun _ => HS4.out _ F6) (fun hS2 => ?_)
   replace hS2 := hS2 (by decide)
   clear hK K
   try simp only [Act.put, aSA, aSZ, aSS]
   refine wpAnyU_ready (rs := [5]) (by kernel_rfl) (by simp) (AllReadyU.cons (o := { dst := some 7, op := Op.buildSlice 23 1 #[(0, Operand.const (Value.agg #[Value.int IntKind.i64 0, Value.string { data := #[] }, Value.slice none 0 0, Value.slice none 0 0]))], type := 23, pos := "json.go:148", after := #[], guard := none }) rfl (fun K hK => ?_) AllReadyU.nil)
   rw [if_pos (by rfl)]
   go_simp
   refine hK.out _ _ (fun _ => HS4.out _ (F6.alloc _)) (fun hS2 => ?_)
   replace hS2 := hS2 (by decide)
   clear hK K
   try simp only [Act.put, aSA, aSZ, aSS]
   refine wpAnyU_ready (rs := [6]) (by kernel_rfl) (by simp) (AllReadyU.cons (o := { dst := some 8, op := Op.call { callee := Callee.builtin Builtin.append, args := #[Operand.tmp 3, Operand.tmp 7], argTypes := #[23, 23] }, type := 23, pos := "json.go:148", after := #[eDa 1, eDa 5, eCh 3, ePh 0, ePh 1, ePh 2, ePh 3, ePh 4, ePh 5], guard := none }) rfl (fun K hK => ?_) AllReadyU.nil)
   rw [if_pos (by rfl)]
   refine wp_append_own_at (.tmp 3) (.tmp 7) 23 rfl lo 25 i45_ _ 4 72 Tryz.underlying23 hi45 hz450 hz451 hz452 rfl (by decide) _ _ _ rfl (hri6.alloc (.cells #[.int .i64 0, .string ⟨#[]⟩, .slice none 0 0, .slice none 0 0] 25)) ⟨w6.heap.size, 0, none⟩ 1 1 [.int .i64 0, .string ⟨#[]⟩, .slice none 0 0, .slice none 0 0] rfl rfl (new_cells _ _ _) (fun u hu => by simp only [List.mem_cons, List.not_mem_nil, or_false] at hu; rcases hu with rfl | rfl | rfl | rfl <;> rfl) (by unfold maxLen; omega) (by omega) (by have := F6.size; simp; omega) ?_; intro iv2 w7 hi2 hgi hat2; obtain ⟨g, cap, rfl, hgl, hgs⟩ := form45 hi2; have F7 := (F6.alloc (.cells #[.int .i64 0, .string ⟨#[]⟩, .slice none 0 0, .slice none 0 0] 25)).trans (FrP.of_row hgi (fun k hk => .inr (hri6.lt k hk).1)); obtain ⟨y1, y2, y3⟩ := HS4.out _ F7; replace hgi : (w6.alloc (.cells #[.int .i64 0, .string ⟨#[]⟩, .slice none 0 0, .slice none 0 0] 25)).grownBy w7 (Value.slice pv L.length cv).ownBlock := hgi; replace hat2 : (Value.slice (some ⟨g, 0, none⟩) (L.length + 1) cap).ownBlock = (Value.slice pv L.length cv).ownBlock ∨ (Value.slice (some ⟨g, 0, none⟩) (L.length + 1) cap).ownBlock = some (w6.alloc (.cells #[.int .i64 0, .string ⟨#[]⟩, .slice none 0 0, .slice none 0 0] 25)).heap.size := hat2; obtain ⟨hr8, gb8, th8⟩ := row_elem (.int .i64 vk) (.string vS) (.slice vp vn vc) (.slice vp' vn' vc') hi2 (rowC_len L)
   refine hK.out _ _ (fun _ => HS4.out _ F7) (fun hS2 => ?_)
   replace hS2 := hS2 (by decide)
   clear hK K
   try simp only [Act.put, aSA, aSZ, aSS]
   have hlt : (L.length : Int) < (L.length : Int) + 1 := by omega
   refine wpAnyU_pure (i := 7) (oi := { dst := some 9, op := Op.indexAddr 23 (Operand.tmp 8) (Operand.tmp 6), type := 0, pos := "json.go:148", after := #[eDa 6, eDa 4, ePh 0, ePh 1, ePh 2, ePh 3, ePh 4, ePh 5, ePh 6, { on := 10, ground := Ground.gcOnly Departure.appendInPlace }], guard := none }) (v := ?_) rfl (by kernel_rfl) (by kernel_rfl) (by kernel_rfl) (by kernel_rfl) (fun _ _ _ h => h) (Or.inl ⟨by rfl, ?_⟩) (fun _ => by assumption) ?_
   rotate_left
   · intro w _; go_simp; with_reducible rfl
   try simp only [Act.put, aSA, aSZ, aSS]
   refine wpAnyU_pure (i := 9) (oi := { dst := some 10, op := Op.fieldAddr 25 (Operand.tmp 0) 3, type := 0, pos := "json.go:148", after := #[ePh 0, ePh 1, ePh 2, ePh 3, ePh 4, ePh 5, ePh 6, { on := 7, ground := Ground.textOnly Departure.appendInPlace }, { on := 8, ground := Ground.textOnly Departure.appendInPlace }], guard := none }) (v := ?_) rfl (by kernel_rfl) (by kernel_rfl) (by kernel_rfl) (by kernel_rfl) (fun _ _ _ h => h) (Or.inl ⟨by rfl, ?_⟩) (fun _ => by assumption) ?_
   rotate_left
   · intro w _; go_simp; with_reducible rfl
   try simp only [Act.put, aSA, aSZ, aSS]
   refine wpAnyU_ready (rs := [8, 10]) (by kernel_rfl) (by simp) (AllReadyU.cons (o := { dst := none, op := Op.store 25 (Operand.tmp 9) (Operand.tmp 5), type := 0, pos := "json.go:148", after := #[eDa 7, eDa 3, eCh 6, ePh 0, ePh 1, ePh 2, ePh 3, ePh 4, ePh 5, ePh 6, { on := 10, ground := Ground.gcOnly Departure.appendInPlace }], guard := none }) rfl (fun K hK => ?_) (AllReadyU.cons (o := { dst := none, op := Op.store 23 (Operand.tmp 10) (Operand.tmp 8), type := 0, pos := "json.go:148", after := #[eDa 9, eDa 6, eCh 6, { on := 8, ground := Ground.textOnly Departure.appendInPlace }, ePh 0, ePh 1, ePh 2, ePh 3, ePh 4, ePh 5, ePh 6, { on := 7, ground := Ground.textOnly Departure.appendInPlace }, { on := 8, ground := Ground.textOnly Departure.appendInPlace }], guard := none }) rfl (fun K hK => ?_) AllReadyU.nil))
   · rw [if_pos (by rfl)]
     refine wp_store_el (.tmp 9) (.tmp 5) rfl g (L.length * 4) (.int .i64 vk) (.string vS) (.slice vp vn vc) (.slice vp' vn' vc') rfl rfl th8 (by simp [Value.oneCell']) ?_; intro W8 H8; obtain ⟨z1, z2, z3⟩ := HS4.out W8 (by rw [H8.out]; exact F7.trans (FrP.of gb8 (.inr hgl)))
     refine hK.out _ _ (fun _ => ⟨z1, z2, z3⟩) (fun hS2 => ?_)
     replace hS2 := hS2 (by decide)
     clear hK K
     try simp only [Act.put]
     refine wpAnyU_ready (rs := [10]) (by kernel_rfl) (by simp) (AllReadyU.cons (o := { dst := none, op := Op.store 23 (Operand.tmp 10) (Operand.tmp 8), type := 0, pos := "json.go:148", after := #[eDa 9, eDa 6, eCh 6, { on := 8, ground := Ground.textOnly Departure.appendInPlace }, ePh 0, ePh 1, ePh 2, ePh 3, ePh 4, ePh 5, ePh 6, { on := 7, ground := Ground.textOnly Departure.appendInPlace }, { on := 8, ground := Ground.textOnly Departure.appendInPlace }], guard := none }) rfl (fun K hK => ?_) AllReadyU.nil)
     rw [if_pos (by rfl)]
     go_simp
     refine hK.out _ _ (fun h => absurd h (by decide)) (fun _ => ?_)
     clear hK K
     try simp only [Act.put, aSA, aSZ, aSS]
     refine wpAnyU_done (by kernel_rfl) ?_ _
     go_wp2_with fail
     go_end0
     have hd7 := (F7.block vb (ltS HH.out.hd) (by omega)).trans HH.out.hd
     have hgvb : g ≠ vb := by omega
     have hW8 := H8.out
     subst hW8
     have hd8 := (gb8.block vb (ltS hd7) (fun e => hgvb (Option.some.inj e).symm)).trans hd7
     exact ⟨rfl, array_end hs HG.out HH.out HLm.out hvp ⟨rfl, rfl, rfl, Nat.le_refl _, fun _ _ _ => rfl⟩ (World.grownBy_alloc w6 (.cells #[.int .i64 0, .string ⟨#[]⟩, .slice none 0 0, .slice none 0 0] 25) none) hgi hat2 (heap_setCell_self hd8 3 _) (row_fr hr8 (FrP.of (P := fun k => k = vb) (gb_set _ vb 3 _) rfl) (fun k hk e => by have := (row_lt hr8 hk).1; omega)) ((FrP.of gb8 (.inr rfl)).trans (FrP.of (gb_set _ vb 3 _) (.inl rfl)))⟩
   · rw [if_pos (by rfl)]
     go_simp
     refine hK.out _ _ (fun h => absurd h (by decide)) (fun _ => ?_)
     clear hK K
     try simp only [Act.put, aSA, aSZ, aSS]
     refine wpAnyU_ready (rs := [8]) (by kernel_rfl) (by simp) (AllReadyU.cons (o := { dst := none, op := Op.store 25 (Operand.tmp 9) (Operand.tmp 5), type := 0, pos := "json.go:148", after := #[eDa 7, eDa 3, eCh 6, ePh 0, ePh 1, ePh 2, ePh 3, ePh 4, ePh 5, ePh 6, { on := 10, ground := Ground.gcOnly Departure.appendInPlace }], guard := none }) rfl (fun K hK => ?_) AllReadyU.nil)
     rw [if_pos (by rfl)]
     obtain ⟨hr9, gb9, th9⟩ := row_elem (.int .i64 vk) (.string vS) (.slice vp vn vc) (.slice vp' vn' vc') (row_fr hi2 (FrP.of (P := fun k => k = vb) (gb_set w7 vb 3 (Value.slice (some ⟨g, 0, none⟩) (L.length + 1) cap)) rfl) (fun k hk e => by have := (row_lt hi2 hk).1; omega)) (rowC_len L); refine wp_store_el (.tmp 9) (.tmp 5) rfl g (L.length * 4) (.int .i64 vk) (.string vS) (.slice vp vn vc) (.slice vp' vn' vc') rfl rfl th9 (by simp [Value.oneCell']) ?_; intro W8 H8
     refine hK.out _ _ (fun h => absurd h (by decide)) (fun _ => ?_)
     clear hK K
     try simp only [Act.put]
     refine wpAnyU_done (by kernel_rfl) ?_ _
     go_wp2_with fail
     go_end0
     have hd7 := (F7.block vb (ltS HH.out.hd) (by omega)).trans HH.out.hd
     have hgvb : g ≠ vb := by omega
     have hW8 := H8.out
     subst hW8
     have hd8 := heap_setCell_self hd7 3 (Value.slice (some ⟨g, 0, none⟩) (L.length + 1) cap)
     exact ⟨rfl, array_end hs HG.out HH.out HLm.out hvp ⟨rfl, rfl, rfl, Nat.le_refl _, fun _ _ _ => rfl⟩ (World.grownBy_alloc w6 (.cells #[.int .i64 0, .string ⟨#[]⟩, .slice none 0 0, .slice none 0 0] 25) none) hgi hat2 ((gb9.block vb (ltS hd8) (fun e => hgvb (Option.some.inj e).symm)).trans hd8) hr9 ((FrP.of (gb_set _ vb 3 _) (.inl rfl)).trans (FrP.of gb9 (.inr rfl)))⟩
 · rw [if_pos (by rfl)]
   go_simp
   refine hK.out _ _ (fun _ => HS4.out _ (F0.alloc _)) (fun hS2 => ?_)
   replace hS2 := hS2 (by decide)
   clear hK K
   try simp only [Act.put, aSA, aSZ, aSS]
   refine wpAnyU_ready (rs := [3]) (by kernel_rfl) (by simp) (AllReadyU.cons (o := { dst := some 5, op := Op.call { callee := Callee.value (Operand.tmp 4), args := #[], argTypes := #[] }, type := 25, pos := "json.go:148", after := #[eDa 2], guard := none }) rfl (fun K hK => ?_) AllReadyU.nil)
   rw [if_pos (by rfl)]
   go_simp
   (go_at_call 112; refine (HVC.out _ (hrd.fr (P := fun k => lo ≤ k) (FrP.of_none (World.grownBy_alloc w.drew (.cells #[.int .i64 0, .string ⟨#[]⟩, .slice none 0 0, .slice none 0 0] 25) none)) (fun k hk => by omega))).mono ?_; rintro e w6 ⟨vk, vS, vp, vn, vc, vp', vn', vc', rfl, hvp⟩; have F6 := (F0.alloc (.cells #[.int .i64 0, .string ⟨#[]⟩, .slice none 0 0, .slice none 0 0] 25)).trans (FrP.of hvp.gb (.inl rfl)); have hri6 := row_fr (hri.alloc (.cells #[.int .i64 0, .string ⟨#[]⟩, .slice none 0 0, .slice none 0 0] 25)) (FrP.of (P := fun k => k = R) hvp.gb rfl) (fun k hk e => by have := (hri.lt k hk).1; omega))
   refine hK.out _ _ (fun _ => HS4.out _ F6) (fun hS2 => ?_)
   replace hS2 := hS2 (by decide)
   clear hK K
   try simp only [Act.put, aSA, aSZ, aSS]
   refine wpAnyU_ready (rs := [6]) (by kernel_rfl) (by simp) (AllReadyU.cons (o := { dst := some 8, op := Op.call { callee := Callee.builtin Builtin.append, args := #[Operand.tmp 3, Operand.tmp 7], argTypes := #[23, 23] }, type := 23, pos := "json.go:148", after := #[eDa 1, eDa 5, eCh 3, ePh 0, ePh 1, ePh 2, ePh 3, ePh 4, ePh 5], guard := none }) rfl (fun K hK => ?_) AllReadyU.nil)
   rw [if_pos (by rfl)]
   refine wp_append_own_at (.tmp 3) (.tmp 7) 23 rfl lo 25 i45_ _ 4 72 Tryz.underlying23 hi45 hz450 hz451 hz452 rfl (by decide) _ _ _ rfl hri6 ⟨w.drew.heap.size, 0, none⟩ 1 1 [.int .i64 0, .string ⟨#[]⟩, .slice none 0 0, .slice none 0 0] rfl rfl (fun j u hj => hvp.gb.cell (new_cells w.drew [.int .i64 0, .string ⟨#[]⟩, .slice none 0 0, .slice none 0 0] 25 j u hj) (by rw [add_blk]; exact fun e => absurd (Option.some.inj e) (Nat.ne_of_gt hrd.lt))) (fun u hu => by simp only [List.mem_cons, List.not_mem_nil, or_false] at hu; rcases hu with rfl | rfl | rfl | rfl <;> rfl) (by unfold maxLen; omega) (by omega) (by have := F6.size; simp; omega) ?_; intro iv2 w7 hi2 hgi hat2; obtain ⟨g, cap, rfl, hgl, hgs⟩ := form45 hi2; have F7 := F6.trans (FrP.of_row hgi (fun k hk => .inr (hri6.lt k hk).1)); obtain ⟨y1, y2, y3⟩ := HS4.out _ F7; replace hgi : w6.grownBy w7 (Value.slice pv L.length cv).ownBlock := hgi; replace hat2 : (Value.slice (some ⟨g, 0, none⟩) (L.length + 1) cap).ownBlock = (Value.slice pv L.length cv).ownBlock ∨ (Value.slice (some ⟨g, 0, none⟩) (L.length + 1) cap).ownBlock = some w6.heap.size := hat2; obtain ⟨hr8, gb8, th8⟩ := row_elem (.int .i64 vk) (.string vS) (.slice vp vn vc) (.slice vp' vn' vc') hi2 (rowC_len L)
   refine hK.out _ _ (fun _ => HS4.out _ F7) (fun hS2 => ?_)
   replace hS2 := hS2 (by decide)
   clear hK K
   try simp only [Act.put, aSA, aSZ, aSS]
   have hlt : (L.length : Int) < (L.length : Int) + 1 := by omega
   refine wpAnyU_pure (i := 7) (oi := { dst := some 9, op := Op.indexAddr 23 (Operand.tmp 8) (Operand.tmp 6), type := 0, pos := "json.go:148", after := #[eDa 6, eDa 4, ePh 0, ePh 1, ePh 2, ePh 3, ePh 4, ePh 5, ePh 6, { on := 10, ground := Ground.gcOnly Departure.appendInPlace }], guard := none }) (v := ?_) rfl (by kernel_rfl) (by kernel_rfl) (by kernel_rfl) (by kernel_rfl) (fun _ _ _ h => h) (Or.inl ⟨by rfl, ?_⟩) (fun _ => by assumption) ?_
   rotate_left
   · intro w _; go_simp; with_reducible rfl
   try simp only [Act.put, aSA, aSZ, aSS]
   refine wpAnyU_pure (i := 9) (oi := { dst := some 10, op := Op.fieldAddr 25 (Operand.tmp 0) 3, type := 0, pos := "json.go:148", after := #[ePh 0, ePh 1, ePh 2, ePh 3, ePh 4, ePh 5, ePh 6, { on := 7, ground := Ground.textOnly Departure.appendInPlace }, { on := 8, ground := Ground.textOnly Departure.appendInPlace }], guard := none }) (v := ?_) rfl (by kernel_rfl) (by kernel_rfl) (by kernel_rfl) (by kernel_rfl) (fun _ _ _ h => h) (Or.inl ⟨by rfl, ?_⟩) (fun _ => by assumption) ?_
   rotate_left
   · intro w _; go_simp; with_reducible rfl
   try simp only [Act.put, aSA, aSZ, aSS]
   refine wpAnyU_ready (rs := [8, 10]) (by kernel_rfl) (by simp) (AllReadyU.cons (o := { dst := none, op := Op.store 25 (Operand.tmp 9) (Operand.tmp 5), type := 0, pos := "json.go:148", after := #[eDa 7, eDa 3, eCh 6, ePh 0, ePh 1, ePh 2, ePh 3, ePh 4, ePh 5, ePh 6, { on := 10, ground := Ground.gcOnly Departure.appendInPlace }], guard := none }) rfl (fun K hK => ?_) (AllReadyU.cons (o := { dst := none, op := Op.store 23 (Operand.tmp 10) (Operand.tmp 8), type := 0, pos := "json.go:148", after := #[eDa 9, eDa 6, eCh 6, { on := 8, ground := Ground.textOnly Departure.appendInPlace }, ePh 0, ePh 1, ePh 2, ePh 3, ePh 4, ePh 5, ePh 6, { on := 7, ground := Ground.textOnly Departure.appendInPlace }, { on := 8, ground := Ground.textOnly Departure.appendInPlace }], guard := none }) rfl (fun K hK => ?_) AllReadyU.nil))
   · rw [if_pos (by rfl)]
     refine wp_store_el (.tmp 9) (.tmp 5) rfl g (L.length * 4) (.int .i64 vk) (.string vS) (.slice vp vn vc) (.slice vp' vn' vc') rfl rfl th8 (by simp [Value.oneCell']) ?_; intro W8 H8; obtain ⟨z1, z2, z3⟩ := HS4.out W8 (by rw [H8.out]; exact F7.trans (FrP.of gb8 (.inr hgl)))
     refine hK.out _ _ (fun _ => ⟨z1, z2, z3⟩) (fun hS2 => ?_)
     replace hS2 := hS2 (by decide)
     clear hK K
     try simp only [Act.put]
     refine wpAnyU_ready (rs := [10]) (by kernel_rfl) (by simp) (AllReadyU.cons (o := { dst := none, op := Op.store 23 (Operand.tmp 10) (Operand.tmp 8), type := 0, pos := "json.go:148", after := #[eDa 9, eDa 6, eCh 6, { on := 8, ground := Ground.textOnly Departure.appendInPlace }, ePh 0, ePh 1, ePh 2, ePh 3, ePh 4, ePh 5, ePh 6, { on := 7, ground := Ground.textOnly Departure.appendInPlace }, { on := 8, ground := Ground.textOnly Departure.appendInPlace }], guard := none }) rfl (fun K hK => ?_) AllReadyU.nil)
     rw [if_pos (by rfl)]
     go_simp
     refine hK.out _ _ (fun h => absurd h (by decide)) (fun _ => ?_)
     clear hK K
     try simp only [Act.put, aSA, aSZ, aSS]
     refine wpAnyU_done (by kernel_rfl) ?_ _
     go_wp2_with fail
     go_end0
     have hd7 := (F7.block vb (ltS HH.out.hd) (by omega)).trans HH.out.hd
     have hgvb : g ≠ vb := by omega
     have hW8 := H8.out
     subst hW8
     have hd8 := (gb8.block vb (ltS hd7) (fun e => hgvb (Option.some.inj e).symm)).trans hd7
     exact ⟨rfl, array_end hs HG.out HH.out HLm.out hvp ((fun h => ⟨h.os, h.tape, h.output, h.size, h.block⟩) (World.grownBy_alloc w.drew (.cells #[.int .i64 0, .string ⟨#[]⟩, .slice none 0 0, .slice none 0 0] 25) none)) (World.grownBy.refl w6 none) hgi hat2 (heap_setCell_self hd8 3 _) (row_fr hr8 (FrP.of (P := fun k => k = vb) (gb_set _ vb 3 _) rfl) (fun k hk e => by have := (row_lt hr8 hk).1; omega)) ((FrP.of gb8 (.inr rfl)).trans (FrP.of (gb_set _ vb 3 _) (.inl rfl)))⟩
   · rw [if_pos (by rfl)]
     go_simp
     refine hK.out _ _ (fun h => absurd h (by decide)) (fun _ => ?_)
     clear hK K
     try simp only [Act.put, aSA, aSZ, aSS]
     refine wpAnyU_ready (rs := [8]) (by kernel_rfl) (by simp) (AllReadyU.cons (o := { dst := none, op := Op.store 25 (Operand.tmp 9) (Operand.tmp 5), type := 0, pos := "json.go:148", after := #[eDa 7, eDa 3, eCh 6, ePh 0, ePh 1, ePh 2, ePh 3, ePh 4, ePh 5, ePh 6, { on := 10, ground := Ground.gcOnly Departure.appendInPlace }], guard := none }) rfl (fun K hK => ?_) AllReadyU.nil)
     rw [if_pos (by rfl)]
     obtain ⟨hr9, gb9, th9⟩ := row_elem (.int .i64 vk) (.string vS) (.slice vp vn vc) (.slice vp' vn' vc') (row_fr hi2 (FrP.of (P := fun k => k = vb) (gb_set w7 vb 3 (Value.slice (some ⟨g, 0, none⟩) (L.length + 1) cap)) rfl) (fun k hk e => by have := (row_lt hi2 hk).1; omega)) (rowC_len L); refine wp_store_el (.tmp 9) (.tmp 5) rfl g (L.length * 4) (.int .i64 vk) (.string vS) (.slice vp vn vc) (.slice vp' vn' vc') rfl rfl th9 (by simp [Value.oneCell']) ?_; intro W8 H8
     refine hK.out _ _ (fun h => absurd h (by decide)) (fun _ => ?_)
     clear hK K
     try simp only [Act.put]
     refine wpAnyU_done (by kernel_rfl) ?_ _
     go_wp2_with fail
     go_end0
     have hd7 := (F7.block vb (ltS HH.out.hd) (by omega)).trans HH.out.hd
     have hgvb : g ≠ vb := by omega
     have hW8 := H8.out
     subst hW8
     have hd8 := heap_setCell_self hd7 3 (Value.slice (some ⟨g, 0, none⟩) (L.length + 1) cap)
     exact ⟨rfl, array_end hs HG.out HH.out HLm.out hvp ((fun h => ⟨h.os, h.tape, h.output, h.size, h.block⟩) (World.grownBy_alloc w.drew (.cells #[.int .i64 0, .string ⟨#[]⟩, .slice none 0 0, .slice none 0 0] 25) none)) (World.grownBy.refl w6 none) hgi hat2 ((gb9.block vb (ltS hd8) (fun e => hgvb (Option.some.inj e).symm)).trans hd8) hr9 ((FrP.of (gb_set _ vb 3 _) (.inl rfl)).trans (FrP.of gb9 (.inr rfl)))⟩
end Go.Proofs.Jt
