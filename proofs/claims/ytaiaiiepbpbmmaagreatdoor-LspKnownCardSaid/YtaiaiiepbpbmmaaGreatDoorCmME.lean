/- lsp.Note at didChange. Printed by gen_md.py. -/
import Derived.Test.YtaiaiiepbpbmmaaGreatDoorCmKB
namespace Go.Proofs.Ls
open Go.RowKit Go.Maps Go.Lib Go.Proofs.Utf Go.Proofs.Jt Go.Proofs

set_option maxRecDepth 100000 in
set_option maxHeartbeats 16000000 in
theorem note_change {w : World} (hE : ∀ V, Below w.heap.size w V → Env V) {x : JV} {S : ByteArray} {kp ip : Option Addr} {kc ic : Nat} (h : KI w x kp kc ip ic) (hwt : x.wt ≤ 1000000) (hS : (⟨x.str.toArray⟩ : ByteArray) = S) (d : JV) (b1 : Bool) (hd : fldR x kDoc 6 false = (d, b1)) (u : JV) (b2 : Bool) (hu : fldR d kUri 4 b1 = (u, b2)) (U : ByteArray) (hU : (⟨u.str.toArray⟩ : ByteArray) = U) (v : Int) (b3 : Bool) (hv : wholeR d kVersion b2 = (v, b3)) (f : JV) (b4 : Bool) (hf : fldR x kChanges 5 b3 = (f, b4)) (cs : List ChV) (bad : Bool) (hc : chsR f.items b4 = (cs, bad)) :
    Calls Tryz.prog 17 #[.string ⟨#[116, 101, 120, 116, 68, 111, 99, 117, 109, 101, 110, 116, 47, 100, 105, 100, 67, 104, 97, 110, 103, 101]⟩, .agg #[.int .i64 x.kind, .string S, .slice kp x.keys.length kc, .slice ip x.items.length ic]] w fun e w' => ∃ p c, e = .returned (.tuple #[if bad = true then .agg #[.int .i64 0, .string ⟨#[]⟩, .string ⟨#[]⟩, .int .i64 0, .slice none 0 0, .string ⟨#[]⟩] else .agg #[.int .i64 2, .string U, .string ⟨#[]⟩, .int .i64 v, .slice p cs.length c, .string ⟨#[]⟩], .bool (!bad)]) ∧ w'.ownsRow w.heap.size 117 6 (.slice p cs.length c) cs.length (chC cs) ∧ Below w.heap.size w w' := by
  obtain ⟨W1, hW1⟩ : ∃ W, w.alloc (.cells #[.int .i64 x.kind, .string S, .slice kp x.keys.length kc, .slice ip x.items.length ic] 25) = W := ⟨_, rfl⟩
  obtain ⟨W2, hW2⟩ : ∃ W, W1.alloc (.cells #[.int .i64 0, .string ⟨#[]⟩, .string ⟨#[]⟩, .int .i64 0, .slice none 0 0, .string ⟨#[]⟩] 31) = W := ⟨_, rfl⟩
  obtain ⟨W3, hW3⟩ : ∃ W, W2.alloc (.cells #[.bool false] 124) = W := ⟨_, rfl⟩
  obtain ⟨W, hW⟩ : ∃ W, W3.alloc (.cells #[.int .i64 0, .string ⟨#[]⟩, .string ⟨#[]⟩, .int .i64 0, .slice none 0 0, .string ⟨#[]⟩] 31) = W := ⟨_, rfl⟩
  have bW1 := alloc_b hW1
  have bW2 := alloc_b hW2
  have bW3 := alloc_b hW3
  have bW4 := alloc_b hW
  have z1 : W1.heap.size = w.heap.size + 1 := by rw [← hW1]; simp
  have z2 : W2.heap.size = w.heap.size + 2 := by rw [← hW2]; simp; omega
  have z3 : W3.heap.size = w.heap.size + 3 := by rw [← hW3]; simp; omega
  have z4 : W.heap.size = w.heap.size + 4 := by rw [← hW]; simp; omega
  have b13 : Below W1.heap.size W1 W := (Below.on bW2 bW3).trans (bW4.mono (by omega))
  obtain ⟨z, hze⟩ : ∃ z, w.heap.size + 2 = z := ⟨_, rfl⟩
  obtain ⟨ob, hoe⟩ : ∃ z, w.heap.size + 3 = z := ⟨_, rfl⟩
  have hr0 : RB W z false := by rw [← hze, ← z2]; exact (bW4.block _ (by omega)).trans (row_at hW3)
  have ho0 : W.heap[ob]? = some (.cells #[.int .i64 0, .string ⟨#[]⟩, .string ⟨#[]⟩, .int .i64 0, .slice none 0 0, .string ⟨#[]⟩] 31 (0, 0)) := by rw [← hoe, ← z3]; exact row_at hW
  have hj0 : W.heap[w.heap.size + 1]? = some (.cells #[.int .i64 0, .string ⟨#[]⟩, .string ⟨#[]⟩, .int .i64 0, .slice none 0 0, .string ⟨#[]⟩] 31 (0, 0)) := by rw [← z1]; exact ((Below.on bW3 bW4).block _ (by omega)).trans (row_at hW2)
  obtain ⟨c0, c1, c2, c3⟩ := box_of hW1 W b13
  obtain ⟨D, hD⟩ : ∃ B : ByteArray, (⟨d.str.toArray⟩ : ByteArray) = B := ⟨_, rfl⟩
  have hx0 := (b13.block _ (by omega)).trans (row_at hW1)
  have hwd : d.wt ≤ 1000000 := by have := fldR_wt x kDoc 6 false; rw [hd] at this; exact Nat.le_trans this hwt
  have hbd : Below W.heap.size W W.drew := (Below.refl _ _).drew
  have h69 := note69 (w := W.drew) (h.stay ((Below.on bW1 b13).trans (hbd.mono (by omega)))) hwt hS z false hr0 w.heap.size hx0 ob _ _ _ _ _ _ ho0 (by omega) d b1 hd D hD u b2 hu U hU
  have HB : Hid (Below w.heap.size w W.drew) := Lib.hid (Below.on bW1 b13).drew
  have HK : Hid (∀ V, Below w.heap.size w V → KI V x kp kc ip ic) := Lib.hid fun V hV => h.stay hV
  have HJ := Lib.hid hj0
  have HX := Lib.hid hx0
  have HDD := Lib.hid (And.intro hwd hD)
  have HV := Lib.hid hv
  have HF := Lib.hid hf
  have HC := Lib.hid hc
  have HWS := Lib.hid (And.intro hwt hS)
  have HEE : Hid (∀ V, Below w.heap.size w V → ErrV V) := Lib.hid fun V hV => (hE V hV).rng
  have HBD := Lib.hid hbd
  subst hW1
  clear h hwt hS hd hu hU hx0 hD hwd hE hv hf hc bW1 bW2 bW3 bW4 b13 hr0 ho0 hj0 hbd
  cases bad with
  | true =>
    go_enter Tryz.func17, Tryz.ntmps17
    go_upto_region 10 with fail
    clear c0 c1 c2 c3
    refine wp_region_held_drew (S := (fun V => V.heap[w.heap.size]? = some (.cells #[.int .i64 x.kind, .string S, .slice kp x.keys.length kc, .slice ip x.items.length ic] 25 (0, 0)))) (by kernel_rfl) HX.out (fun hHeld => ?_)
    refine wpAnyH_take (i := 0) (oi := { dst := some 26, op := Op.move (Operand.tmp 8), type := 121, pos := "lsp.go:117", after := #[], guard := none }) (v := ?_) rfl (by kernel_rfl) (by kernel_rfl) (by kernel_rfl) (fun _ _ _ h => h) (Or.inl ⟨by rfl, ?_⟩) (by assumption) ?_
    rotate_left
    · intro wx hS; go_simp; with_reducible rfl
    try simp only [Act.put, aSA, aSZ, aSS]
    refine wpAnyH_take (i := 3) (oi := { dst := some 29, op := Op.load 25 (Operand.tmp 3), type := 25, pos := "lsp.go:117", after := #[], guard := none }) (v := ?_) rfl (by kernel_rfl) (by kernel_rfl) (by kernel_rfl) (fun _ _ _ h => h) (Or.inl ⟨by rfl, ?_⟩) (by assumption) ?_
    rotate_left
    · intro wx hS; obtain ⟨k0, k1, k2, k3⟩ := cells4 hS; go_simp; with_reducible rfl
    try simp only [Act.put, aSA, aSZ, aSS]
    refine wpAnyH_take (i := 5) (oi := { dst := some 31, op := Op.fieldAddr 31 (Operand.tmp 7) 0, type := 0, pos := "lsp.go:117", after := #[{ on := 0, ground := Ground.textOnly Departure.lateStores }, { on := 1, ground := Ground.textOnly Departure.lateStoresUnsure }, { on := 2, ground := Ground.textOnly Departure.lateStoresUnsure }, { on := 3, ground := Ground.textOnly Departure.lateStores }, { on := 4, ground := Ground.textOnly Departure.lateStoresUnsure }], guard := none }) (v := ?_) rfl (by kernel_rfl) (by kernel_rfl) (by kernel_rfl) (fun _ _ _ h => h) (Or.inl ⟨by rfl, ?_⟩) (by assumption) ?_
    rotate_left
    · intro wx hS; go_simp; with_reducible rfl
    try simp only [Act.put, aSA, aSZ, aSS]
    refine wpAnyH_ready (rs := [1]) (by kernel_rfl) (by simp) (AllReadyH.cons (o := { dst := some 27, op := Op.call { callee := Callee.value (Operand.tmp 26), args := #[], argTypes := #[] }, type := 25, pos := "lsp.go:117", after := #[{ on := 0, ground := Ground.data }], guard := none }) rfl (fun K' hK => ?_) AllReadyH.nil)
    rw [if_pos (by rfl)]
    go_simp
    go_at_call 69
    refine h69.mono ?_
    rintro e w1 ⟨fp, fc, gp, gc, rfl, hkp, hr1, ho1, hf1⟩
    have hs1 := (hf1.block w.heap.size (by show _ < W.heap.size; omega) (fun hk => by rcases hk with hk | hk | hk; omega; omega; exact absurd hk (by show ¬ W.heap.size ≤ _; omega))).trans HX.out
    have hj1 := (hf1.block (w.heap.size + 1) (by show _ < W.heap.size; omega) (fun hk => by rcases hk with hk | hk | hk; omega; omega; exact absurd hk (by show ¬ W.heap.size ≤ _; omega))).trans HJ.out
    have hb1 := below_fr HB.out (Nat.le_refl _) hf1 (fun k hk => by rcases hk with hk | hk | hk; omega; omega; exact Nat.le_trans (by omega) (show W.heap.size ≤ _ from hk))
    have hB := whole72 HEE.out hb1 hkp.ki HDD.out.1 HDD.out.2 z (by omega) b2 hr1 ⟨#[118, 101, 114, 115, 105, 111, 110]⟩ v b3 HV.out
    refine hK.out _ _ hs1 (fun hH1 => ?_)
    clear hK K'
    try simp only [Act.put, aSA, aSZ, aSS]
    refine wpAnyH_ready (rs := [2]) (by kernel_rfl) (by simp) (AllReadyH.cons (o := { dst := some 28, op := Op.call { callee := Callee.value (Operand.func 72), args := #[Operand.tmp 6, Operand.tmp 27, Operand.const (Value.string { data := #[118, 101, 114, 115, 105, 111, 110] })], argTypes := #[124, 25, 9] }, type := 2, pos := "lsp.go:117", after := #[{ on := 1, ground := Ground.data }, { on := 1, ground := Ground.chain }], guard := none }) rfl (fun K' hK => ?_) AllReadyH.nil)
    rw [if_pos (by rfl)]
    go_simp
    go_at_call 72
    refine hB.mono ?_
    rintro e w2 ⟨rfl, hr2, hg2⟩
    have hs2 := (hg2.block w.heap.size (ltS hs1) (fun e => by have := Option.some.inj e; omega)).trans hs1
    have ho2 := (hg2.block ob (ltS ho1) (fun e => by have := Option.some.inj e; omega)).trans ho1
    have hj2 := (hg2.block _ (ltS hj1) (fun e => by have := Option.some.inj e; omega)).trans hj1
    have hb2 := below_gb hb1 hg2 (by omega)
    have hC := changes73 HEE.out hb2 (HK.out w2 hb2) HWS.out.1 HWS.out.2 z (by omega) b3 hr2 f b4 HF.out cs true HC.out
    refine hK.out _ _ hs2 (fun hH2 => ?_)
    clear hK K'
    try simp only [Act.put, aSA, aSZ, aSS]
    refine wpAnyH_ready (rs := [4]) (by kernel_rfl) (by simp) (AllReadyH.cons (o := { dst := some 30, op := Op.call { callee := Callee.value (Operand.func 73), args := #[Operand.tmp 6, Operand.tmp 29], argTypes := #[124, 25] }, type := 29, pos := "lsp.go:117", after := #[{ on := 3, ground := Ground.data }, { on := 2, ground := Ground.chain }], guard := none }) rfl (fun K' hK => ?_) AllReadyH.nil)
    rw [if_pos (by rfl)]
    go_simp
    go_at_call 73
    refine hC.mono ?_
    rintro e w3 ⟨p, c, rfl, hrow, hr3, hg3⟩
    have hs3 := (hg3.block w.heap.size (ltS hs2) (fun e => by have := Option.some.inj e; omega)).trans hs2
    have ho3 := (hg3.block ob (ltS ho2) (fun e => by have := Option.some.inj e; omega)).trans ho2
    have hj3 := (hg3.block _ (ltS hj2) (fun e => by have := Option.some.inj e; omega)).trans hj2
    have hb3 := below_gb hb2 hg3 (by omega)
    have hol := ltS ho2
    refine hK.out _ _ hs3 (fun hH4 => ?_)
    clear hK K'
    try simp only [Act.put, aSA, aSZ, aSS]
    refine wpAnyH_ready (rs := [6]) (by kernel_rfl) (by simp) (AllReadyH.cons (o := { dst := none, op := Op.store 3 (Operand.tmp 31) (Operand.const (Value.int IntKind.i64 2)), type := 0, pos := "lsp.go:117", after := #[{ on := 5, ground := Ground.data }, { on := 4, ground := Ground.chain }, { on := 0, ground := Ground.textOnly Departure.lateStores }, { on := 1, ground := Ground.textOnly Departure.lateStoresUnsure }, { on := 2, ground := Ground.textOnly Departure.lateStoresUnsure }, { on := 3, ground := Ground.textOnly Departure.lateStores }, { on := 4, ground := Ground.textOnly Departure.lateStoresUnsure }], guard := none }) rfl (fun K' hK => ?_) AllReadyH.nil)
    rw [if_pos (by rfl)]
    refine wp_store_part 3 (.tmp 31) (.const (.int .i64 2)) rfl ob 0 (.int .i64 2) [.int .i64 2] rfl rfl rfl (by kernel_rfl) (fun u hu => by rw [List.mem_singleton.1 hu]; rfl) _ #[.int .i64 2, .string U, .string ⟨#[]⟩, .int .i64 0, .slice none 0 0, .string ⟨#[]⟩] 31 ho3 (Nat.le_of_ble_eq_true rfl) rfl (fun V5 hV5 hg5 _ => ?_)
    have hs5 := (hg5.block w.heap.size (ltS hs3) (fun e => by have := Option.some.inj e; omega)).trans hs3
    refine hK.out _ _ hs5 (fun hH6 => ?_)
    clear hK K'
    try simp only [Act.put]
    refine wpAnyH_take (i := 7) (oi := { dst := some 32, op := Op.fieldAddr 31 (Operand.tmp 7) 3, type := 0, pos := "lsp.go:117", after := #[{ on := 0, ground := Ground.phase }, { on := 1, ground := Ground.phase }, { on := 2, ground := Ground.phase }, { on := 3, ground := Ground.textOnly Departure.lateStores }, { on := 4, ground := Ground.textOnly Departure.lateStoresUnsure }, { on := 5, ground := Ground.phase }, { on := 6, ground := Ground.phase }], guard := none }) (v := ?_) rfl (by kernel_rfl) (by kernel_rfl) (by kernel_rfl) (fun _ _ _ h => h) (Or.inl ⟨by rfl, ?_⟩) (by assumption) ?_
    rotate_left
    · intro wx hS; go_simp; with_reducible rfl
    try simp only [Act.put, aSA, aSZ, aSS]
    refine wpAnyH_ready (rs := [8]) (by kernel_rfl) (by simp) (AllReadyH.cons (o := { dst := none, op := Op.store 2 (Operand.tmp 32) (Operand.tmp 28), type := 0, pos := "lsp.go:117", after := #[{ on := 7, ground := Ground.data }, { on := 2, ground := Ground.data }, { on := 6, ground := Ground.chain }, { on := 0, ground := Ground.phase }, { on := 1, ground := Ground.phase }, { on := 2, ground := Ground.phase }, { on := 3, ground := Ground.textOnly Departure.lateStores }, { on := 4, ground := Ground.textOnly Departure.lateStoresUnsure }, { on := 5, ground := Ground.phase }, { on := 6, ground := Ground.phase }], guard := none }) rfl (fun K' hK => ?_) AllReadyH.nil)
    rw [if_pos (by rfl)]
    refine wp_store_part 2 (.tmp 32) (.tmp 28) rfl ob 3 (.int .i64 v) [.int .i64 v] rfl rfl rfl (by kernel_rfl) (fun u hu => by rw [List.mem_singleton.1 hu]; rfl) _ #[.int .i64 2, .string U, .string ⟨#[]⟩, .int .i64 v, .slice none 0 0, .string ⟨#[]⟩] 31 hV5 (Nat.le_of_ble_eq_true rfl) rfl (fun V7 hV7 hg7 _ => ?_)
    have hs7 := (hg7.block w.heap.size (ltS hs5) (fun e => by have := Option.some.inj e; omega)).trans hs5
    refine hK.out _ _ hs7 (fun hH8 => ?_)
    clear hK K'
    try simp only [Act.put]
    refine wpAnyH_take (i := 9) (oi := { dst := some 33, op := Op.fieldAddr 31 (Operand.tmp 7) 4, type := 0, pos := "lsp.go:117", after := #[{ on := 0, ground := Ground.phase }, { on := 1, ground := Ground.phase }, { on := 2, ground := Ground.phase }, { on := 3, ground := Ground.phase }, { on := 4, ground := Ground.phase }, { on := 5, ground := Ground.phase }, { on := 6, ground := Ground.phase }, { on := 7, ground := Ground.phase }, { on := 8, ground := Ground.phase }], guard := none }) (v := ?_) rfl (by kernel_rfl) (by kernel_rfl) (by kernel_rfl) (fun _ _ _ h => h) (Or.inl ⟨by rfl, ?_⟩) (by assumption) ?_
    rotate_left
    · intro wx hS; go_simp; with_reducible rfl
    try simp only [Act.put, aSA, aSZ, aSS]
    refine wpAnyH_ready (rs := [10]) (by kernel_rfl) (by simp) (AllReadyH.cons (o := { dst := none, op := Op.store 29 (Operand.tmp 33) (Operand.tmp 30), type := 0, pos := "lsp.go:117", after := #[{ on := 9, ground := Ground.data }, { on := 4, ground := Ground.data }, { on := 8, ground := Ground.chain }, { on := 0, ground := Ground.phase }, { on := 1, ground := Ground.phase }, { on := 2, ground := Ground.phase }, { on := 3, ground := Ground.phase }, { on := 4, ground := Ground.phase }, { on := 5, ground := Ground.phase }, { on := 6, ground := Ground.phase }, { on := 7, ground := Ground.phase }, { on := 8, ground := Ground.phase }], guard := none }) rfl (fun K' hK => ?_) AllReadyH.nil)
    rw [if_pos (by rfl)]
    refine wp_store_part 29 (.tmp 33) (.tmp 30) rfl ob 4 (.slice p cs.length c) [.slice p cs.length c] rfl rfl rfl (by kernel_rfl) (fun u hu => by rw [List.mem_singleton.1 hu]; rfl) _ #[.int .i64 2, .string U, .string ⟨#[]⟩, .int .i64 v, .slice p cs.length c, .string ⟨#[]⟩] 31 hV7 (Nat.le_of_ble_eq_true rfl) rfl (fun V9 hV9 hg9 _ => ?_)
    have hs9 := (hg9.block w.heap.size (ltS hs7) (fun e => by have := Option.some.inj e; omega)).trans hs7
    refine hK.out _ _ hs9 (fun hH10 => ?_)
    clear hK K'
    try simp only [Act.put]
    have hrE := ((hr3.gb hg5 (by omega)).gb hg7 (by omega)).gb hg9 (by omega)
    have hjE := (hg9.block _ (by have := ltS hj3; have := hg5.size; have := hg7.size; omega) (fun e => by have := Option.some.inj e; omega)).trans ((hg7.block _ (by have := ltS hj3; have := hg5.size; omega) (fun e => by have := Option.some.inj e; omega)).trans ((hg5.block _ (ltS hj3) (fun e => by have := Option.some.inj e; omega)).trans hj3))
    have hbE := below_gb (below_gb (below_gb hb3 hg5 (by omega)) hg7 (by omega)) hg9 (by omega)
    have hrowE := row_fr hrow (((FrP.of (P := fun q => q = ob) hg5 rfl).trans (FrP.of (P := fun q => q = ob) hg7 rfl)).trans (FrP.of (P := fun q => q = ob) hg9 rfl)) (fun q hq e => by have := row_lt hrow hq; omega)
    have hb2s := hb2.size
    have hjl := ltS hj2
    refine wpAnyH_done (by kernel_rfl) ?_ _
    have qz := hrE.cell
    obtain ⟨y0, y1, y2, y3, y4, y5⟩ := cells6 hV9
    go_wp2_with (first
      | (refine store_part rfl 31 (.tmp 4) (.tmp 47) rfl (w.heap.size + 1) 0 (.agg #[.int .i64 0, .string ⟨#[]⟩, .string ⟨#[]⟩, .int .i64 0, .slice none 0 0, .string ⟨#[]⟩]) [.int .i64 0, .string ⟨#[]⟩, .string ⟨#[]⟩, .int .i64 0, .slice none 0 0, .string ⟨#[]⟩] rfl rfl rfl (by kernel_rfl) (fun u hu => by simp only [List.mem_cons, List.not_mem_nil, or_false] at hu; rcases hu with rfl | rfl | rfl | rfl | rfl | rfl <;> rfl) _ #[.int .i64 0, .string ⟨#[]⟩, .string ⟨#[]⟩, .int .i64 0, .slice none 0 0, .string ⟨#[]⟩] 31 hjE (Nat.le_of_ble_eq_true rfl) rfl (fun V99 hV99 hg99 _ => ?_)))
    refine bodyPost_ret (ret_o Tryz.results17 rfl rfl hV99) rfl ?_
    exact ⟨rfl, ⟨p, c, row_low (row_fr hrowE (FrP.of (P := fun q => q = w.heap.size + 1) hg99 rfl) (fun q hq e => by have := row_lt hrow hq; omega)) hb2s⟩, below_gb hbE hg99 (by omega)⟩
  | false =>
    go_enter Tryz.func17, Tryz.ntmps17
    go_upto_region 10 with fail
    clear c0 c1 c2 c3
    refine wp_region_held_drew (S := (fun V => V.heap[w.heap.size]? = some (.cells #[.int .i64 x.kind, .string S, .slice kp x.keys.length kc, .slice ip x.items.length ic] 25 (0, 0)))) (by kernel_rfl) HX.out (fun hHeld => ?_)
    refine wpAnyH_take (i := 0) (oi := { dst := some 26, op := Op.move (Operand.tmp 8), type := 121, pos := "lsp.go:117", after := #[], guard := none }) (v := ?_) rfl (by kernel_rfl) (by kernel_rfl) (by kernel_rfl) (fun _ _ _ h => h) (Or.inl ⟨by rfl, ?_⟩) (by assumption) ?_
    rotate_left
    · intro wx hS; go_simp; with_reducible rfl
    try simp only [Act.put, aSA, aSZ, aSS]
    refine wpAnyH_take (i := 3) (oi := { dst := some 29, op := Op.load 25 (Operand.tmp 3), type := 25, pos := "lsp.go:117", after := #[], guard := none }) (v := ?_) rfl (by kernel_rfl) (by kernel_rfl) (by kernel_rfl) (fun _ _ _ h => h) (Or.inl ⟨by rfl, ?_⟩) (by assumption) ?_
    rotate_left
    · intro wx hS; obtain ⟨k0, k1, k2, k3⟩ := cells4 hS; go_simp; with_reducible rfl
    try simp only [Act.put, aSA, aSZ, aSS]
    refine wpAnyH_take (i := 5) (oi := { dst := some 31, op := Op.fieldAddr 31 (Operand.tmp 7) 0, type := 0, pos := "lsp.go:117", after := #[{ on := 0, ground := Ground.textOnly Departure.lateStores }, { on := 1, ground := Ground.textOnly Departure.lateStoresUnsure }, { on := 2, ground := Ground.textOnly Departure.lateStoresUnsure }, { on := 3, ground := Ground.textOnly Departure.lateStores }, { on := 4, ground := Ground.textOnly Departure.lateStoresUnsure }], guard := none }) (v := ?_) rfl (by kernel_rfl) (by kernel_rfl) (by kernel_rfl) (fun _ _ _ h => h) (Or.inl ⟨by rfl, ?_⟩) (by assumption) ?_
    rotate_left
    · intro wx hS; go_simp; with_reducible rfl
    try simp only [Act.put, aSA, aSZ, aSS]
    refine wpAnyH_ready (rs := [1]) (by kernel_rfl) (by simp) (AllReadyH.cons (o := { dst := some 27, op := Op.call { callee := Callee.value (Operand.tmp 26), args := #[], argTypes := #[] }, type := 25, pos := "lsp.go:117", after := #[{ on := 0, ground := Ground.data }], guard := none }) rfl (fun K' hK => ?_) AllReadyH.nil)
    rw [if_pos (by rfl)]
    go_simp
    go_at_call 69
    refine h69.mono ?_
    rintro e w1 ⟨fp, fc, gp, gc, rfl, hkp, hr1, ho1, hf1⟩
    have hs1 := (hf1.block w.heap.size (by show _ < W.heap.size; omega) (fun hk => by rcases hk with hk | hk | hk; omega; omega; exact absurd hk (by show ¬ W.heap.size ≤ _; omega))).trans HX.out
    have hj1 := (hf1.block (w.heap.size + 1) (by show _ < W.heap.size; omega) (fun hk => by rcases hk with hk | hk | hk; omega; omega; exact absurd hk (by show ¬ W.heap.size ≤ _; omega))).trans HJ.out
    have hb1 := below_fr HB.out (Nat.le_refl _) hf1 (fun k hk => by rcases hk with hk | hk | hk; omega; omega; exact Nat.le_trans (by omega) (show W.heap.size ≤ _ from hk))
    have hB := whole72 HEE.out hb1 hkp.ki HDD.out.1 HDD.out.2 z (by omega) b2 hr1 ⟨#[118, 101, 114, 115, 105, 111, 110]⟩ v b3 HV.out
    refine hK.out _ _ hs1 (fun hH1 => ?_)
    clear hK K'
    try simp only [Act.put, aSA, aSZ, aSS]
    refine wpAnyH_ready (rs := [2]) (by kernel_rfl) (by simp) (AllReadyH.cons (o := { dst := some 28, op := Op.call { callee := Callee.value (Operand.func 72), args := #[Operand.tmp 6, Operand.tmp 27, Operand.const (Value.string { data := #[118, 101, 114, 115, 105, 111, 110] })], argTypes := #[124, 25, 9] }, type := 2, pos := "lsp.go:117", after := #[{ on := 1, ground := Ground.data }, { on := 1, ground := Ground.chain }], guard := none }) rfl (fun K' hK => ?_) AllReadyH.nil)
    rw [if_pos (by rfl)]
    go_simp
    go_at_call 72
    refine hB.mono ?_
    rintro e w2 ⟨rfl, hr2, hg2⟩
    have hs2 := (hg2.block w.heap.size (ltS hs1) (fun e => by have := Option.some.inj e; omega)).trans hs1
    have ho2 := (hg2.block ob (ltS ho1) (fun e => by have := Option.some.inj e; omega)).trans ho1
    have hj2 := (hg2.block _ (ltS hj1) (fun e => by have := Option.some.inj e; omega)).trans hj1
    have hb2 := below_gb hb1 hg2 (by omega)
    have hC := changes73 HEE.out hb2 (HK.out w2 hb2) HWS.out.1 HWS.out.2 z (by omega) b3 hr2 f b4 HF.out cs false HC.out
    refine hK.out _ _ hs2 (fun hH2 => ?_)
    clear hK K'
    try simp only [Act.put, aSA, aSZ, aSS]
    refine wpAnyH_ready (rs := [4]) (by kernel_rfl) (by simp) (AllReadyH.cons (o := { dst := some 30, op := Op.call { callee := Callee.value (Operand.func 73), args := #[Operand.tmp 6, Operand.tmp 29], argTypes := #[124, 25] }, type := 29, pos := "lsp.go:117", after := #[{ on := 3, ground := Ground.data }, { on := 2, ground := Ground.chain }], guard := none }) rfl (fun K' hK => ?_) AllReadyH.nil)
    rw [if_pos (by rfl)]
    go_simp
    go_at_call 73
    refine hC.mono ?_
    rintro e w3 ⟨p, c, rfl, hrow, hr3, hg3⟩
    have hs3 := (hg3.block w.heap.size (ltS hs2) (fun e => by have := Option.some.inj e; omega)).trans hs2
    have ho3 := (hg3.block ob (ltS ho2) (fun e => by have := Option.some.inj e; omega)).trans ho2
    have hj3 := (hg3.block _ (ltS hj2) (fun e => by have := Option.some.inj e; omega)).trans hj2
    have hb3 := below_gb hb2 hg3 (by omega)
    have hol := ltS ho2
    refine hK.out _ _ hs3 (fun hH4 => ?_)
    clear hK K'
    try simp only [Act.put, aSA, aSZ, aSS]
    refine wpAnyH_ready (rs := [6]) (by kernel_rfl) (by simp) (AllReadyH.cons (o := { dst := none, op := Op.store 3 (Operand.tmp 31) (Operand.const (Value.int IntKind.i64 2)), type := 0, pos := "lsp.go:117", after := #[{ on := 5, ground := Ground.data }, { on := 4, ground := Ground.chain }, { on := 0, ground := Ground.textOnly Departure.lateStores }, { on := 1, ground := Ground.textOnly Departure.lateStoresUnsure }, { on := 2, ground := Ground.textOnly Departure.lateStoresUnsure }, { on := 3, ground := Ground.textOnly Departure.lateStores }, { on := 4, ground := Ground.textOnly Departure.lateStoresUnsure }], guard := none }) rfl (fun K' hK => ?_) AllReadyH.nil)
    rw [if_pos (by rfl)]
    refine wp_store_part 3 (.tmp 31) (.const (.int .i64 2)) rfl ob 0 (.int .i64 2) [.int .i64 2] rfl rfl rfl (by kernel_rfl) (fun u hu => by rw [List.mem_singleton.1 hu]; rfl) _ #[.int .i64 2, .string U, .string ⟨#[]⟩, .int .i64 0, .slice none 0 0, .string ⟨#[]⟩] 31 ho3 (Nat.le_of_ble_eq_true rfl) rfl (fun V5 hV5 hg5 _ => ?_)
    have hs5 := (hg5.block w.heap.size (ltS hs3) (fun e => by have := Option.some.inj e; omega)).trans hs3
    refine hK.out _ _ hs5 (fun hH6 => ?_)
    clear hK K'
    try simp only [Act.put]
    refine wpAnyH_take (i := 7) (oi := { dst := some 32, op := Op.fieldAddr 31 (Operand.tmp 7) 3, type := 0, pos := "lsp.go:117", after := #[{ on := 0, ground := Ground.phase }, { on := 1, ground := Ground.phase }, { on := 2, ground := Ground.phase }, { on := 3, ground := Ground.textOnly Departure.lateStores }, { on := 4, ground := Ground.textOnly Departure.lateStoresUnsure }, { on := 5, ground := Ground.phase }, { on := 6, ground := Ground.phase }], guard := none }) (v := ?_) rfl (by kernel_rfl) (by kernel_rfl) (by kernel_rfl) (fun _ _ _ h => h) (Or.inl ⟨by rfl, ?_⟩) (by assumption) ?_
    rotate_left
    · intro wx hS; go_simp; with_reducible rfl
    try simp only [Act.put, aSA, aSZ, aSS]
    refine wpAnyH_ready (rs := [8]) (by kernel_rfl) (by simp) (AllReadyH.cons (o := { dst := none, op := Op.store 2 (Operand.tmp 32) (Operand.tmp 28), type := 0, pos := "lsp.go:117", after := #[{ on := 7, ground := Ground.data }, { on := 2, ground := Ground.data }, { on := 6, ground := Ground.chain }, { on := 0, ground := Ground.phase }, { on := 1, ground := Ground.phase }, { on := 2, ground := Ground.phase }, { on := 3, ground := Ground.textOnly Departure.lateStores }, { on := 4, ground := Ground.textOnly Departure.lateStoresUnsure }, { on := 5, ground := Ground.phase }, { on := 6, ground := Ground.phase }], guard := none }) rfl (fun K' hK => ?_) AllReadyH.nil)
    rw [if_pos (by rfl)]
    refine wp_store_part 2 (.tmp 32) (.tmp 28) rfl ob 3 (.int .i64 v) [.int .i64 v] rfl rfl rfl (by kernel_rfl) (fun u hu => by rw [List.mem_singleton.1 hu]; rfl) _ #[.int .i64 2, .string U, .string ⟨#[]⟩, .int .i64 v, .slice none 0 0, .string ⟨#[]⟩] 31 hV5 (Nat.le_of_ble_eq_true rfl) rfl (fun V7 hV7 hg7 _ => ?_)
    have hs7 := (hg7.block w.heap.size (ltS hs5) (fun e => by have := Option.some.inj e; omega)).trans hs5
    refine hK.out _ _ hs7 (fun hH8 => ?_)
    clear hK K'
    try simp only [Act.put]
    refine wpAnyH_take (i := 9) (oi := { dst := some 33, op := Op.fieldAddr 31 (Operand.tmp 7) 4, type := 0, pos := "lsp.go:117", after := #[{ on := 0, ground := Ground.phase }, { on := 1, ground := Ground.phase }, { on := 2, ground := Ground.phase }, { on := 3, ground := Ground.phase }, { on := 4, ground := Ground.phase }, { on := 5, ground := Ground.phase }, { on := 6, ground := Ground.phase }, { on := 7, ground := Ground.phase }, { on := 8, ground := Ground.phase }], guard := none }) (v := ?_) rfl (by kernel_rfl) (by kernel_rfl) (by kernel_rfl) (fun _ _ _ h => h) (Or.inl ⟨by rfl, ?_⟩) (by assumption) ?_
    rotate_left
    · intro wx hS; go_simp; with_reducible rfl
    try simp only [Act.put, aSA, aSZ, aSS]
    refine wpAnyH_ready (rs := [10]) (by kernel_rfl) (by simp) (AllReadyH.cons (o := { dst := none, op := Op.store 29 (Operand.tmp 33) (Operand.tmp 30), type := 0, pos := "lsp.go:117", after := #[{ on := 9, ground := Ground.data }, { on := 4, ground := Ground.data }, { on := 8, ground := Ground.chain }, { on := 0, ground := Ground.phase }, { on := 1, ground := Ground.phase }, { on := 2, ground := Ground.phase }, { on := 3, ground := Ground.phase }, { on := 4, ground := Ground.phase }, { on := 5, ground := Ground.phase }, { on := 6, ground := Ground.phase }, { on := 7, ground := Ground.phase }, { on := 8, ground := Ground.phase }], guard := none }) rfl (fun K' hK => ?_) AllReadyH.nil)
    rw [if_pos (by rfl)]
    refine wp_store_part 29 (.tmp 33) (.tmp 30) rfl ob 4 (.slice p cs.length c) [.slice p cs.length c] rfl rfl rfl (by kernel_rfl) (fun u hu => by rw [List.mem_singleton.1 hu]; rfl) _ #[.int .i64 2, .string U, .string ⟨#[]⟩, .int .i64 v, .slice p cs.length c, .string ⟨#[]⟩] 31 hV7 (Nat.le_of_ble_eq_true rfl) rfl (fun V9 hV9 hg9 _ => ?_)
    have hs9 := (hg9.block w.heap.size (ltS hs7) (fun e => by have := Option.some.inj e; omega)).trans hs7
    refine hK.out _ _ hs9 (fun hH10 => ?_)
    clear hK K'
    try simp only [Act.put]
    have hrE := ((hr3.gb hg5 (by omega)).gb hg7 (by omega)).gb hg9 (by omega)
    have hjE := (hg9.block _ (by have := ltS hj3; have := hg5.size; have := hg7.size; omega) (fun e => by have := Option.some.inj e; omega)).trans ((hg7.block _ (by have := ltS hj3; have := hg5.size; omega) (fun e => by have := Option.some.inj e; omega)).trans ((hg5.block _ (ltS hj3) (fun e => by have := Option.some.inj e; omega)).trans hj3))
    have hbE := below_gb (below_gb (below_gb hb3 hg5 (by omega)) hg7 (by omega)) hg9 (by omega)
    have hrowE := row_fr hrow (((FrP.of (P := fun q => q = ob) hg5 rfl).trans (FrP.of (P := fun q => q = ob) hg7 rfl)).trans (FrP.of (P := fun q => q = ob) hg9 rfl)) (fun q hq e => by have := row_lt hrow hq; omega)
    have hb2s := hb2.size
    have hjl := ltS hj2
    refine wpAnyH_done (by kernel_rfl) ?_ _
    have qz := hrE.cell
    obtain ⟨y0, y1, y2, y3, y4, y5⟩ := cells6 hV9
    go_wp2_with (first
      | (refine store_part rfl 31 (.tmp 4) (.tmp 48) rfl (w.heap.size + 1) 0 (.agg #[.int .i64 2, .string U, .string ⟨#[]⟩, .int .i64 v, .slice p cs.length c, .string ⟨#[]⟩]) [.int .i64 2, .string U, .string ⟨#[]⟩, .int .i64 v, .slice p cs.length c, .string ⟨#[]⟩] rfl rfl rfl (by kernel_rfl) (fun u hu => by simp only [List.mem_cons, List.not_mem_nil, or_false] at hu; rcases hu with rfl | rfl | rfl | rfl | rfl | rfl <;> rfl) _ #[.int .i64 2, .string U, .string ⟨#[]⟩, .int .i64 v, .slice p cs.length c, .string ⟨#[]⟩] 31 hjE (Nat.le_of_ble_eq_true rfl) rfl (fun V99 hV99 hg99 _ => ?_)))
    refine bodyPost_ret (ret_o Tryz.results17 rfl rfl hV99) rfl ?_
    exact ⟨p, c, rfl, row_low (row_fr hrowE (FrP.of (P := fun q => q = w.heap.size + 1) hg99 rfl) (fun q hq e => by have := row_lt hrow hq; omega)) hb2s, below_gb hbE hg99 (by omega)⟩
end Go.Proofs.Ls
