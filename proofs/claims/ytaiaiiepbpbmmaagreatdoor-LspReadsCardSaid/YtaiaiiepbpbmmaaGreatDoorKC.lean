/- Merged texts: MF, MG, MQ. -/
import Derived.Test.YtaiaiiepbpbmmaaGreatDoorKB
import Derived.Test.YtaiaiiepbpbmmaaGreatDoorMD
import Derived.Test.YtaiaiiepbpbmmaaGreatDoorME
/- MF: lsp.Note at any text. Printed by gen_mf.py. -/
namespace Go.Proofs.Ls
open Go.RowKit Go.Maps Go.Lib Go.Proofs.Utf Go.Proofs.Jt Go.Proofs

def zeroOp : OpV := ⟨0, [], [], 0, [], []⟩
/-- a value that is what a notification says -/
def OpP (w : World) (t : TypeId) (B : Nat) (v : Value) (o : OpV) : Prop := ∃ p c, v = .agg #[.int .i64 o.k, .string ⟨o.uri.toArray⟩, .string ⟨o.text.toArray⟩, .int .i64 o.ver, .slice p o.ch.length c, .string ⟨o.id.toArray⟩] ∧ w.ownsRow B t 6 (.slice p o.ch.length c) o.ch.length (chC o.ch)
theorem OpP.flat {w : World} {t : TypeId} {B : Nat} {v : Value} {o : OpV} (hc : o.ch = []) (hv : v = .agg #[.int .i64 o.k, .string ⟨o.uri.toArray⟩, .string ⟨o.text.toArray⟩, .int .i64 o.ver, .slice none 0 0, .string ⟨o.id.toArray⟩]) : OpP w t B v o := ⟨none, 0, by rw [hv, hc]; rfl, by rw [hc]; exact World.ownsRow_nil _ _ _ _⟩
theorem OpP.below {w w' : World} {t : TypeId} {B : Nat} {v : Value} {o : OpV} (h : OpP w t B v o) (hb : Below w.heap.size w w') : OpP w' t B v o := by
  obtain ⟨p, c, h1, h2⟩ := h
  exact ⟨p, c, h1, own_below h2 hb⟩
theorem meth_ne {m : List UInt8} {M : ByteArray} (hM : (⟨m.toArray⟩ : ByteArray) = M) {k : List UInt8} (h : ¬ m = k) : (M.toList == k) = false := by
  rw [← hM]
  exact beq_eq_false_iff_ne.2 (fun e => h (by simpa using e))
theorem note_any {w : World} (hE : ∀ V, Below w.heap.size w V → Env V) {x : JV} {S : ByteArray} {kp ip : Option Addr} {kc ic : Nat} (h : KI w x kp kc ip ic) (hwt : x.wt ≤ 1000000) (hS : (⟨x.str.toArray⟩ : ByteArray) = S) (m : List UInt8) (M : ByteArray) (hM : (⟨m.toArray⟩ : ByteArray) = M) (o : OpV) (bad : Bool) (hn : noteR m x = (o, bad)) :
    Calls Tryz.prog 17 #[.string M, .agg #[.int .i64 x.kind, .string S, .slice kp x.keys.length kc, .slice ip x.items.length ic]] w fun e w' => ∃ v, e = .returned (.tuple #[v, .bool (!bad)]) ∧ OpP w' 117 w.heap.size v (if bad = true then zeroOp else o) ∧ Below w.heap.size w w' := by
  by_cases m1 : m = mOpen
  · subst m1
    obtain rfl : (⟨#[116, 101, 120, 116, 68, 111, 99, 117, 109, 101, 110, 116, 47, 100, 105, 100, 79, 112, 101, 110]⟩ : ByteArray) = M := hM
    unfold noteR at hn
    rw [if_pos rfl] at hn
    simp only [Prod.mk.injEq] at hn
    obtain ⟨rfl, hb⟩ := hn
    refine (note_open hE h hwt hS _ _ rfl _ _ rfl _ rfl _ _ rfl _ rfl _ bad (Prod.ext rfl hb)).mono ?_
    rintro e w' ⟨rfl, hw⟩
    refine ⟨_, rfl, ?_, hw⟩
    cases bad
    · exact OpP.flat rfl rfl
    · exact OpP.flat rfl rfl
  by_cases m2 : m = mChange
  · subst m2
    obtain rfl : (⟨#[116, 101, 120, 116, 68, 111, 99, 117, 109, 101, 110, 116, 47, 100, 105, 100, 67, 104, 97, 110, 103, 101]⟩ : ByteArray) = M := hM
    unfold noteR at hn
    rw [if_neg (by decide), if_pos rfl] at hn
    simp only [Prod.mk.injEq] at hn
    obtain ⟨rfl, hb⟩ := hn
    refine (note_change hE h hwt hS _ _ rfl _ _ rfl _ rfl _ _ rfl _ _ rfl _ bad (Prod.ext rfl hb)).mono ?_
    rintro e w' ⟨p, c, rfl, hr, hw⟩
    refine ⟨_, rfl, ?_, hw⟩
    cases bad
    · exact ⟨p, c, rfl, hr⟩
    · exact OpP.flat rfl rfl
  by_cases m3 : m = mClose
  · subst m3
    obtain rfl : (⟨#[116, 101, 120, 116, 68, 111, 99, 117, 109, 101, 110, 116, 47, 100, 105, 100, 67, 108, 111, 115, 101]⟩ : ByteArray) = M := hM
    unfold noteR at hn
    rw [if_neg (by decide), if_neg (by decide), if_pos rfl] at hn
    simp only [Prod.mk.injEq] at hn
    obtain ⟨rfl, hb⟩ := hn
    refine (note_close h hwt hS _ _ rfl _ bad (Prod.ext rfl hb) _ rfl).mono ?_
    rintro e w' ⟨rfl, hw⟩
    refine ⟨_, rfl, ?_, hw⟩
    cases bad
    · exact OpP.flat rfl rfl
    · exact OpP.flat rfl rfl
  by_cases m4 : m = mCancel
  · subst m4
    obtain rfl : (⟨#[36, 47, 99, 97, 110, 99, 101, 108, 82, 101, 113, 117, 101, 115, 116]⟩ : ByteArray) = M := hM
    unfold noteR at hn
    rw [if_neg (by decide), if_neg (by decide), if_neg (by decide), if_pos rfl] at hn
    simp only [Prod.mk.injEq] at hn
    obtain ⟨rfl, hb⟩ := hn
    refine (note_cancel hE h hwt hS _ bad (Prod.ext rfl hb) _ rfl).mono ?_
    rintro e w' ⟨rfl, hw⟩
    refine ⟨_, rfl, ?_, hw⟩
    cases bad
    · exact OpP.flat rfl rfl
    · exact OpP.flat rfl rfl
  unfold noteR at hn
  rw [if_neg m1, if_neg m2, if_neg m3, if_neg m4] at hn
  simp only [Prod.mk.injEq] at hn
  obtain ⟨rfl, rfl⟩ := hn
  refine (note_other M (meth_ne hM m1) (meth_ne hM m2) (meth_ne hM m3) (meth_ne hM m4)).mono ?_
  rintro e w' ⟨rfl, hw⟩
  exact ⟨_, rfl, OpP.flat rfl rfl, hw⟩
end Go.Proofs.Ls
/- MG: The law's theirs, and the reference's Same. Printed by gen_mg.py. -/
namespace Go.Proofs.Ls
open Go.RowKit Go.Maps Go.Lib Go.Proofs.Utf Go.Proofs.Jt Go.Proofs

theorem chC_at : ∀ (l : List ChV) (i : Nat) (c : ChV), l[i]? = some c → (chC l)[i * 6]? = some (.bool c.whole) ∧ (chC l)[i * 6 + 1]? = some (.int .i64 c.a.1) ∧ (chC l)[i * 6 + 2]? = some (.int .i64 c.a.2) ∧ (chC l)[i * 6 + 3]? = some (.int .i64 c.b.1) ∧ (chC l)[i * 6 + 4]? = some (.int .i64 c.b.2) ∧ (chC l)[i * 6 + 5]? = some (.string ⟨c.text.toArray⟩)
  | [], _, _, h => by cases h
  | a :: l, 0, c, h => by
    obtain rfl : a = c := by simpa using h
    exact ⟨rfl, rfl, rfl, rfl, rfl, rfl⟩
  | a :: l, i + 1, c, h => by
    have := chC_at l i c (by simpa using h)
    rw [show (i + 1) * 6 = i * 6 + 6 by omega]
    exact this
/-- the cells of a change at a place -/
structure CC (w : World) (q : Addr) (y : ChV) : Prop where
  c0 : w.cell? q = some (.bool y.whole)
  c1 : w.cell? ⟨q.block, q.off + 1, none⟩ = some (.int .i64 y.a.1)
  c2 : w.cell? ⟨q.block, q.off + 2, none⟩ = some (.int .i64 y.a.2)
  c3 : w.cell? ⟨q.block, q.off + 3, none⟩ = some (.int .i64 y.b.1)
  c4 : w.cell? ⟨q.block, q.off + 4, none⟩ = some (.int .i64 y.b.2)
  c5 : w.cell? ⟨q.block, q.off + 5, none⟩ = some (.string ⟨y.text.toArray⟩)
  blk : q.block < w.heap.size
theorem CC.below {w w' : World} {q : Addr} {y : ChV} (h : CC w q y) (hb : Below w.heap.size w w') : CC w' q y :=
  ⟨(hb.cell h.blk).trans h.c0, (hb.cell (by exact h.blk)).trans h.c1, (hb.cell (by exact h.blk)).trans h.c2, (hb.cell (by exact h.blk)).trans h.c3, (hb.cell (by exact h.blk)).trans h.c4, (hb.cell (by exact h.blk)).trans h.c5, Nat.lt_of_lt_of_le h.blk hb.size⟩
theorem row_el {w : World} {B c : Nat} {t : TypeId} {p : Option Addr} {l : List ChV} (h : w.ownsRow B t 6 (.slice p l.length c) l.length (chC l)) {i : Nat} {y : ChV} (hy : l[i]? = some y) : ∃ a, p = some a ∧ CC w (a.add (i * 6)) y := by
  have h0 := h
  obtain ⟨hl, h⟩ := h
  rcases h with ⟨h1, h2⟩ | ⟨g, cap, cur, h1, h2, h3, h4⟩
  · have := (List.getElem?_eq_some_iff.1 hy).1
    omega
  · cases h1
    have hc := World.ownsRow.cells h0 (g := g) rfl
    obtain ⟨e0, e1, e2, e3, e4, e5⟩ := chC_at l i y hy
    have hb : ((⟨g, 0, none⟩ : Addr).add (i * 6)).block = g := add_blk _ _
    have ho : ((⟨g, 0, none⟩ : Addr).add (i * 6)).off = i * 6 := by
      unfold Addr.add
      split
      · show 0 = _; omega
      · show 0 + _ = _; omega
    have hk : ∀ (k : Nat) (u : Value), (chC l)[i * 6 + (k + 1)]? = some u → w.cell? ⟨g, i * 6 + (k + 1), none⟩ = some u := fun k u hu => by
      have := hc _ _ hu
      unfold Addr.add at this
      rw [if_neg (by omega)] at this
      simpa using this
    refine ⟨_, rfl, hc _ _ e0, ?_, ?_, ?_, ?_, ?_, by rw [hb]; exact ltS h3⟩
    · rw [hb, ho]; exact hk 0 _ e1
    · rw [hb, ho]; exact hk 1 _ e2
    · rw [hb, ho]; exact hk 2 _ e3
    · rw [hb, ho]; exact hk 3 _ e4
    · rw [hb, ho]; exact hk 4 _ e5
theorem cell_same' {w w' : World} {q : Addr} {x : Value} (h : w.cell? q = some x) (he : w'.heap[q.block]? = w.heap[q.block]?) : w'.cell? q = some x := by
  unfold World.cell? at h ⊢
  rw [he]
  exact h
theorem CC.fr {P : Nat → Prop} {w w' : World} {q : Addr} {y : ChV} (h : CC w q y) (hF : FrP P w w') (hn : ¬ P q.block) : CC w' q y := by
  have e := hF.block q.block h.blk hn
  exact ⟨cell_same' h.c0 e, cell_same' h.c1 e, cell_same' h.c2 e, cell_same' h.c3 e, cell_same' h.c4 e, cell_same' h.c5 e, Nat.lt_of_lt_of_le h.blk hF.size⟩
theorem fr_low {w w' : World} {n : Nat} (h : Below n w w') : FrP (fun q => n ≤ q) w w' := ⟨h.os, h.tape, h.output, h.size, fun k _ hp => h.block k (by omega)⟩
theorem cells_newd (w : World) (C : List Value) (t : TypeId) (V : World) (hV : (w.alloc (.cells C.toArray t)).drew = V) : ∀ (j : Nat) (u : Value), C[j]? = some u → V.cell? ((⟨w.heap.size, 0, none⟩ : Addr).add j) = some u := by
  subst hV
  intro j u hu
  have := cells_at_new w C t _ rfl j u hu
  exact this
theorem info140 : (Tryz.prog.info? 140).map (fun i => (i.zero, i.size, i.bytes)) = some (some (.agg #[.bool false, .int .i64 0, .int .i64 0, .int .i64 0, .int .i64 0, .string ⟨#[]⟩]), 6, 56) := by kernel_rfl
theorem ret_o1 {fn : Func} {q : Tmp} (h : fn.results = #[.cell q 36]) {tmps : Array Value} {w : World} {g : Nat} (hp : tmps.getD q undef = .pointer (some ⟨g, 0, none⟩)) {v0 v1 v2 v3 v4 v5 : Value} (hg : w.heap[g]? = some (.cells #[v0, v1, v2, v3, v4, v5] 36 (0, 0))) :
    (results fn tmps).run Tryz.prog w = .ok (.agg #[v0, v1, v2, v3, v4, v5]) w := results_cell_row h tmps w g 36 _ _ _ hp hg Tryz.underlying36 rfl (by kernel_rfl)
set_option maxRecDepth 100000 in
set_option maxHeartbeats 16000000 in
theorem theirs22 {w : World} {B : Nat} {v : Value} {o : OpV} (hv : OpP w 117 B v o) (hl : o.ch.length ≤ 1000000) :
    Calls Tryz.prog 22 #[v] w fun e w' => ∃ v', e = .returned v' ∧ OpP w' 140 w.heap.size v' o ∧ Below w.heap.size w w' := by
  obtain ⟨p, c, rfl, hrow⟩ := hv
  obtain ⟨U, hU⟩ : ∃ U : ByteArray, (⟨o.uri.toArray⟩ : ByteArray) = U := ⟨_, rfl⟩
  obtain ⟨T, hT⟩ : ∃ U : ByteArray, (⟨o.text.toArray⟩ : ByteArray) = U := ⟨_, rfl⟩
  obtain ⟨I, hI⟩ : ∃ U : ByteArray, (⟨o.id.toArray⟩ : ByteArray) = U := ⟨_, rfl⟩
  unfold OpP
  rw [hU, hT, hI]
  obtain ⟨W1, hW1⟩ : ∃ W, w.alloc (.cells #[.int .i64 o.k, .string U, .string T, .int .i64 o.ver, .slice p o.ch.length c, .string I] 31) = W := ⟨_, rfl⟩
  obtain ⟨W2, hW2⟩ : ∃ W, W1.alloc (.cells #[.int .i64 0, .string ⟨#[]⟩, .string ⟨#[]⟩, .int .i64 0, .slice none 0 0, .string ⟨#[]⟩] 36) = W := ⟨_, rfl⟩
  obtain ⟨W3, hW3⟩ : ∃ W, W2.alloc (.cells #[.int .i64 o.k, .string U, .string T, .int .i64 o.ver, .slice none 0 0, .string I] 36) = W := ⟨_, rfl⟩
  have bW1 := alloc_b hW1
  have bW2 := alloc_b hW2
  have bW3 := alloc_b hW3
  have z1 : W1.heap.size = w.heap.size + 1 := by rw [← hW1]; simp
  have z2 : W2.heap.size = w.heap.size + 2 := by rw [← hW2]; simp; omega
  have z3 : W3.heap.size = w.heap.size + 3 := by rw [← hW3]; simp; omega
  have b13 : Below w.heap.size w W3 := bW1.trans ((bW2.mono (by omega)).trans (bW3.mono (by omega)))
  have hx0 : W3.heap[w.heap.size]? = some (.cells #[.int .i64 o.k, .string U, .string T, .int .i64 o.ver, .slice p o.ch.length c, .string I] 31 (0, 0)) := (bW3.block _ (by omega)).trans ((bW2.block _ (by omega)).trans (row_at hW1))
  have hj0 : W3.heap[w.heap.size + 1]? = some (.cells #[.int .i64 0, .string ⟨#[]⟩, .string ⟨#[]⟩, .int .i64 0, .slice none 0 0, .string ⟨#[]⟩] 36 (0, 0)) := by rw [← z1]; exact (bW3.block _ (by omega)).trans (row_at hW2)
  obtain ⟨xb, hxb⟩ : ∃ q, w.heap.size + 2 = q := ⟨_, rfl⟩
  have hxr : W3.heap[xb]? = some (.cells #[.int .i64 o.k, .string U, .string T, .int .i64 o.ver, .slice none 0 0, .string I] 36 (0, 0)) := by rw [← hxb, ← z2]; exact row_at hW3
  have hc1 := cells6 (row_at hW1)
  have hc2 := cells6 ((bW2.block _ (by omega)).trans (row_at hW1))
  obtain ⟨c0, c1, c2, c3, c4, c5⟩ := hc2
  have HC0 : Hid (∀ V, Below W3.heap.size W3 V → V.cell? ⟨w.heap.size, 4, none⟩ = some (.slice p o.ch.length c)) := Lib.hid fun V hV => (cells6 ((hV.block _ (ltS hx0)).trans hx0)).2.2.2.2.1
  have HX0 := Lib.hid hx0
  have HJ0 := Lib.hid hj0
  have HB13 := Lib.hid b13
  have HROW := Lib.hid (own_below hrow b13)
  have HLT : Hid (∀ k, (Value.slice p o.ch.length c).ownBlock = some k → k < w.heap.size) := Lib.hid fun k hk => (row_lt hrow hk).2
  have HU := Lib.hid (And.intro hU (And.intro hT hI))
  obtain ⟨i140_, hi140, hz0', hz1', hz2'⟩ := info_parts info140
  subst hW1
  clear hrow hx0 hj0 bW1 bW2 bW3 b13 hc1 hU hT hI
  go_enter Tryz.func22, Tryz.ntmps22
  go_wp2_with fail
  go_loopw [4] (fun iv wr => ∃ (i : Nat) (l : List ChV) (lv : Value), iv = .int .i64 i ∧ i ≤ o.ch.length ∧ l = o.ch.take i ∧ wr.heap[xb]? = some (.cells #[.int .i64 o.k, .string U, .string T, .int .i64 o.ver, lv, .string I] 36 (0, 0)) ∧ wr.ownsRow W3.heap.size 140 6 lv l.length (chC l) ∧ Below (w.heap.size + 2) W3 wr) (fun iv _ => o.ch.length - (RowKit.intOf iv).toNat)
  case atStart => exact ⟨0, [], _, rfl, Nat.zero_le _, rfl, hxr, World.ownsRow_nil _ _ _ _, Below.refl _ _⟩
  case round =>
    obtain ⟨i, l, lv, rfl, hi, hlt, hxl, hown, hB⟩ := hrel
    have hll : l.length = i := by rw [hlt, List.length_take]; omega
    subst hll
    have HLT2 := Lib.hid hlt
    obtain ⟨pl, cl, rfl⟩ := row_shape hown
    have hX1 := (hB.block w.heap.size (by omega)).trans HX0.out
    have HJ1 := Lib.hid ((hB.block (w.heap.size + 1) (by omega)).trans HJ0.out)
    obtain ⟨x0, x1, x2, x3, x4, x5⟩ := cells6 hX1
    clear c0 c1 c2 c3 c4 c5 hxr hlt
    by_cases hin : (l.length : Int) < (o.ch.length : Int)
    · obtain ⟨y, hy⟩ : ∃ y, o.ch[l.length]? = some y := ⟨_, List.getElem?_eq_getElem (by omega)⟩
      obtain ⟨a, rfl, hcc⟩ := row_el HROW.out hy
      have hab : a.block < w.heap.size := HLT.out _ rfl
      have hc := CC.fr hcc (fr_low hB) (by rw [add_blk]; omega)
      obtain ⟨Y, hY⟩ : ∃ U : ByteArray, (⟨y.text.toArray⟩ : ByteArray) = U := ⟨_, rfl⟩
      have hsm : l.length ≤ 1000000 := by omega
      have HBZ : Hid (W3.heap.size ≤ wr.heap.size) := Lib.hid hB.size
      have HS5 : Hid (∀ v, FrP (fun q => (Value.slice pl l.length cl).ownBlock = some q) wr v → (v.cell? (a.add (l.length * 6)) = some (.bool y.whole) ∧ v.cell? ⟨(a.add (l.length * 6)).block, (a.add (l.length * 6)).off + 1, none⟩ = some (.int .i64 y.a.1) ∧ v.cell? ⟨(a.add (l.length * 6)).block, (a.add (l.length * 6)).off + 2, none⟩ = some (.int .i64 y.a.2) ∧ v.cell? ⟨(a.add (l.length * 6)).block, (a.add (l.length * 6)).off + 3, none⟩ = some (.int .i64 y.b.1) ∧ v.cell? ⟨(a.add (l.length * 6)).block, (a.add (l.length * 6)).off + 4, none⟩ = some (.int .i64 y.b.2) ∧ v.cell? ⟨(a.add (l.length * 6)).block, (a.add (l.length * 6)).off + 5, none⟩ = some (.string Y)) ∧ v.cell? ⟨w.heap.size, 4, none⟩ = some (.slice (some a) o.ch.length c) ∧ v.cell? ⟨xb, 4, none⟩ = some (.slice pl l.length cl) ∧ v.frozen? ⟨xb, 4, none⟩ = false) := Lib.hid fun V hF => by
        have hcv := CC.fr hc hF (by rw [add_blk]; intro e; have := row_lt hown e; omega)
        have e1 := (hF.block w.heap.size (ltS hX1) (by intro e; have := row_lt hown e; omega)).trans hX1
        have e2 := (hF.block xb (ltS hxl) (by intro e; have := row_lt hown e; omega)).trans hxl
        refine ⟨⟨hcv.c0, hcv.c1, hcv.c2, hcv.c3, hcv.c4, by rw [← hY]; exact hcv.c5⟩, (cells6 e1).2.2.2.2.1, (cells6 e2).2.2.2.2.1, by simp [World.frozen?, e2]⟩
      have HXB := Lib.hid hxl
      have HOWN := Lib.hid hown
      have HY := Lib.hid (And.intro hy hY)
      clear hc hcc hown hxl hX1 hy hY
      go_upto_region 5 with fail
      clear x0 x1 x2 x3 x4 x5
      refine wp_region_late (S := fun v => (v.cell? (a.add (l.length * 6)) = some (.bool y.whole) ∧ v.cell? ⟨(a.add (l.length * 6)).block, (a.add (l.length * 6)).off + 1, none⟩ = some (.int .i64 y.a.1) ∧ v.cell? ⟨(a.add (l.length * 6)).block, (a.add (l.length * 6)).off + 2, none⟩ = some (.int .i64 y.a.2) ∧ v.cell? ⟨(a.add (l.length * 6)).block, (a.add (l.length * 6)).off + 3, none⟩ = some (.int .i64 y.b.1) ∧ v.cell? ⟨(a.add (l.length * 6)).block, (a.add (l.length * 6)).off + 4, none⟩ = some (.int .i64 y.b.2) ∧ v.cell? ⟨(a.add (l.length * 6)).block, (a.add (l.length * 6)).off + 5, none⟩ = some (.string Y)) ∧ v.cell? ⟨w.heap.size, 4, none⟩ = some (.slice (some a) o.ch.length c) ∧ v.cell? ⟨xb, 4, none⟩ = some (.slice pl l.length cl) ∧ v.frozen? ⟨xb, 4, none⟩ = false) 10 (by kernel_rfl) (HS5.out _ ((FrP.refl _ _).drew)) (fun hHeld => ?_)
      refine wpAnyU_take (i := 0) (oi := { dst := some 23, op := Op.fieldAddr 36 (Operand.tmp 3) 4, type := 0, pos := "law.go:18", after := #[], guard := none }) (v := ?_) [1, 8, 9, 10] rfl (by kernel_rfl) (by kernel_rfl) (by kernel_rfl) (by kernel_rfl) (fun _ _ _ h => h) (Or.inl ⟨by rfl, ?_⟩) (by assumption) ?_
      rotate_left
      · intro w hS; obtain ⟨⟨hS0, hS1, hS2, hS3, hS4, hS5⟩, hS6, hS7, hS8⟩ := hS; go_simp; with_reducible rfl
      try simp only [Act.put, List.setIfInBounds_toArray, List.set_cons_zero, List.set_cons_succ]
      refine wpAnyU_take (i := 1) (oi := { dst := some 24, op := Op.load 34 (Operand.tmp 23), type := 34, pos := "law.go:18", after := #[{ on := 0, ground := Ground.data }], guard := none }) (v := ?_) [8, 9, 10] rfl (by kernel_rfl) (by kernel_rfl) (by kernel_rfl) (by kernel_rfl) (fun _ _ _ h => h) (Or.inl ⟨by rfl, ?_⟩) (by assumption) ?_
      rotate_left
      · intro w hS; obtain ⟨⟨hS0, hS1, hS2, hS3, hS4, hS5⟩, hS6, hS7, hS8⟩ := hS; go_simp; with_reducible rfl
      try simp only [Act.put, List.setIfInBounds_toArray, List.set_cons_zero, List.set_cons_succ]
      refine wpAnyU_take (i := 2) (oi := { dst := some 25, op := Op.fieldAddr 31 (Operand.tmp 1) 4, type := 0, pos := "law.go:18", after := #[], guard := none }) (v := ?_) [3, 5, 6, 7, 8, 9, 10] rfl (by kernel_rfl) (by kernel_rfl) (by kernel_rfl) (by kernel_rfl) (fun _ _ _ h => h) (Or.inl ⟨by rfl, ?_⟩) (by assumption) ?_
      rotate_left
      · intro w hS; obtain ⟨⟨hS0, hS1, hS2, hS3, hS4, hS5⟩, hS6, hS7, hS8⟩ := hS; go_simp; with_reducible rfl
      try simp only [Act.put, List.setIfInBounds_toArray, List.set_cons_zero, List.set_cons_succ]
      refine wpAnyU_take (i := 3) (oi := { dst := some 26, op := Op.load 29 (Operand.tmp 25), type := 29, pos := "law.go:18", after := #[{ on := 2, ground := Ground.data }], guard := none }) (v := ?_) [5, 6, 7, 8, 9, 10] rfl (by kernel_rfl) (by kernel_rfl) (by kernel_rfl) (by kernel_rfl) (fun _ _ _ h => h) (Or.inl ⟨by rfl, ?_⟩) (by assumption) ?_
      rotate_left
      · intro w hS; obtain ⟨⟨hS0, hS1, hS2, hS3, hS4, hS5⟩, hS6, hS7, hS8⟩ := hS; go_simp; with_reducible rfl
      try simp only [Act.put, List.setIfInBounds_toArray, List.set_cons_zero, List.set_cons_succ]
      refine wpAnyU_take (i := 4) (oi := { dst := some 27, op := Op.move (Operand.tmp 4), type := 3, pos := "law.go:18", after := #[], guard := none }) (v := ?_) [5, 6, 7, 8, 9, 10] rfl (by kernel_rfl) (by kernel_rfl) (by kernel_rfl) (by kernel_rfl) (fun _ _ _ h => h) (Or.inl ⟨by rfl, ?_⟩) (by assumption) ?_
      rotate_left
      · intro w hS; obtain ⟨⟨hS0, hS1, hS2, hS3, hS4, hS5⟩, hS6, hS7, hS8⟩ := hS; go_simp; with_reducible rfl
      try simp only [Act.put, List.setIfInBounds_toArray, List.set_cons_zero, List.set_cons_succ]
      refine wpAnyU_take (i := 5) (oi := { dst := some 28, op := Op.indexAddr 29 (Operand.tmp 26) (Operand.tmp 27), type := 0, pos := "law.go:18", after := #[{ on := 3, ground := Ground.data }, { on := 4, ground := Ground.data }], guard := none }) (v := ?_) [6, 7, 8, 9, 10] rfl (by kernel_rfl) (by kernel_rfl) (by kernel_rfl) (by kernel_rfl) (fun _ _ _ h => h) (Or.inl ⟨by rfl, ?_⟩) (by assumption) ?_
      rotate_left
      · intro w hS; obtain ⟨⟨hS0, hS1, hS2, hS3, hS4, hS5⟩, hS6, hS7, hS8⟩ := hS; go_simp; with_reducible rfl
      try simp only [Act.put, List.setIfInBounds_toArray, List.set_cons_zero, List.set_cons_succ]
      refine wpAnyU_take (i := 6) (oi := { dst := some 29, op := Op.load 117 (Operand.tmp 28), type := 117, pos := "law.go:18", after := #[{ on := 5, ground := Ground.data }], guard := none }) (v := ?_) [7, 8, 9, 10] rfl (by kernel_rfl) (by kernel_rfl) (by kernel_rfl) (by kernel_rfl) (fun _ _ _ h => h) (Or.inl ⟨by rfl, ?_⟩) (by assumption) ?_
      rotate_left
      · intro w hS; obtain ⟨⟨hS0, hS1, hS2, hS3, hS4, hS5⟩, hS6, hS7, hS8⟩ := hS; go_simp; with_reducible rfl
      try simp only [Act.put, List.setIfInBounds_toArray, List.set_cons_zero, List.set_cons_succ]
      refine wpAnyU_ready (rs := [7]) (by kernel_rfl) (by simp) (AllReadyU.cons (o := { dst := some 30, op := Op.buildSlice 34 1 #[(0, Operand.tmp 29)], type := 34, pos := "law.go:18", after := #[{ on := 6, ground := Ground.data }], guard := none }) rfl (fun K hK => ?_) AllReadyU.nil)
      rw [if_pos (by rfl)]
      go_simp
      refine hK.out _ _ (fun _ => HS5.out _ (((FrP.refl _ _).alloc _).drew)) (fun hS2 => ?_)
      replace hS2 := hS2 (by decide)
      clear hK K
      try simp only [Act.put, List.setIfInBounds_toArray, List.set_cons_zero, List.set_cons_succ]
      refine wpAnyU_ready (rs := [8]) (by kernel_rfl) (by simp) (AllReadyU.cons (o := { dst := some 31, op := Op.call { callee := Callee.builtin Builtin.append, args := #[Operand.tmp 24, Operand.tmp 30], argTypes := #[34, 34] }, type := 34, pos := "law.go:18", after := #[{ on := 1, ground := Ground.data }, { on := 7, ground := Ground.data }], guard := none }) rfl (fun K hK => ?_) AllReadyU.nil)
      rw [if_pos (by rfl)]
      refine wp_append_own_at (.tmp 24) (.tmp 30) 34 rfl W3.heap.size 140 i140_ _ 6 56 Tryz.underlying34 hi140 hz0' hz1' hz2' rfl (by decide) _ _ _ rfl (own_below HOWN.out (((Below.refl _ _).alloc (Nat.le_refl _) (.cells #[.bool y.whole, .int .i64 y.a.1, .int .i64 y.a.2, .int .i64 y.b.1, .int .i64 y.b.2, .string Y] 140)).drew)) ⟨wr.heap.size, 0, none⟩ 1 1 [.bool y.whole, .int .i64 y.a.1, .int .i64 y.a.2, .int .i64 y.b.1, .int .i64 y.b.2, .string Y] rfl rfl (cells_newd wr [.bool y.whole, .int .i64 y.a.1, .int .i64 y.a.2, .int .i64 y.b.1, .int .i64 y.b.2, .string Y] 140 _ rfl) (fun u hu => by simp only [List.mem_cons, List.not_mem_nil, or_false] at hu; rcases hu with rfl | rfl | rfl | rfl | rfl | rfl <;> rfl) (by unfold maxLen; omega) (by omega) (by have := HBZ.out; show _ ≤ (wr.heap.push _).size; rw [Array.size_push]; omega) ?_; intro iv2 w7 hi2 hgi hat2; have F7 := ((FrP.refl (fun q => (Value.slice pl l.length cl).ownBlock = some q) wr).alloc (.cells #[.bool y.whole, .int .i64 y.a.1, .int .i64 y.a.2, .int .i64 y.b.1, .int .i64 y.b.2, .string Y] 140)).drew.trans (FrP.of_row hgi (fun k hk => hk)); obtain ⟨pw, cw, rfl⟩ := row_form hi2; obtain ⟨_, _, y2, y3⟩ := HS5.out _ F7
      refine hK.out _ _ (fun _ => HS5.out _ F7) (fun hS2 => ?_)
      replace hS2 := hS2 (by decide)
      clear hK K
      try simp only [Act.put, List.setIfInBounds_toArray, List.set_cons_zero, List.set_cons_succ]
      refine wpAnyU_pure (i := 9) (oi := { dst := some 32, op := Op.fieldAddr 36 (Operand.tmp 3) 4, type := 0, pos := "law.go:18", after := #[{ on := 0, ground := Ground.phase }, { on := 1, ground := Ground.phase }, { on := 2, ground := Ground.phase }, { on := 3, ground := Ground.phase }, { on := 4, ground := Ground.phase }, { on := 5, ground := Ground.phase }, { on := 6, ground := Ground.phase }, { on := 7, ground := Ground.phase }, { on := 8, ground := Ground.phase }], guard := none }) (v := ?_) rfl (by kernel_rfl) (by kernel_rfl) (by kernel_rfl) (by kernel_rfl) (fun _ _ _ h => h) (Or.inl ⟨by rfl, ?_⟩) (fun _ => by assumption) ?_
      rotate_left
      · intro w _; go_simp; with_reducible rfl
      try simp only [Act.put, List.setIfInBounds_toArray, List.set_cons_zero, List.set_cons_succ]
      refine wpAnyU_ready (rs := [10]) (by kernel_rfl) (by simp) (AllReadyU.cons (o := { dst := none, op := Op.store 34 (Operand.tmp 32) (Operand.tmp 31), type := 0, pos := "law.go:18", after := #[{ on := 9, ground := Ground.data }, { on := 8, ground := Ground.data }, { on := 8, ground := Ground.chain }, { on := 0, ground := Ground.phase }, { on := 1, ground := Ground.phase }, { on := 2, ground := Ground.phase }, { on := 3, ground := Ground.phase }, { on := 4, ground := Ground.phase }, { on := 5, ground := Ground.phase }, { on := 6, ground := Ground.phase }, { on := 7, ground := Ground.phase }, { on := 8, ground := Ground.phase }], guard := none }) rfl (fun K hK => ?_) AllReadyU.nil)
      rw [if_pos (by rfl)]
      refine wp_store_part 34 (.tmp 32) (.tmp 31) rfl xb 4 (.slice pw (l.length + 1) cw) [.slice pw (l.length + 1) cw] rfl rfl rfl (by kernel_rfl) (fun u hu => by rw [List.mem_singleton.1 hu]; rfl) _ #[.int .i64 o.k, .string U, .string T, .int .i64 o.ver, .slice pw (l.length + 1) cw, .string I] 36 ((F7.block _ (ltS HXB.out) (fun e => by have := row_lt HOWN.out e; omega)).trans HXB.out) (Nat.le_of_ble_eq_true rfl) rfl (fun V9 hV9 hg9 _ => ?_)
      refine hK.out _ _ (fun h => absurd h (by decide)) (fun _ => ?_)
      clear hK K
      try simp only [Act.put]
      refine wpAnyU_done (by kernel_rfl) ?_ _
      go_wp2_with fail
      go_roundw
      case rel =>
        refine ⟨l.length + 1, l ++ [y], _, by go_num, by omega, by rw [show o.ch.take (l.length + 1) = o.ch.take l.length ++ [y] from by rw [List.take_add_one, HY.out.1]; rfl, ← HLT2.out], hV9, ?_, ?_⟩
        · have := row_fr hi2 (FrP.of (P := fun q => q = xb) hg9 rfl) (fun q hq e => by have := row_lt hi2 hq; omega)
          rw [chC_snoc, HY.out.2, List.length_append]
          exact this
        · exact hB.trans (below_fr (B := w.heap.size + 2) (W := wr) (Below.refl _ _) (by have := hB.size; omega) (F7.mono (Q := fun q => w.heap.size + 2 ≤ q) (fun q _ hq => by have := row_lt HOWN.out hq; omega) |>.trans (FrP.of hg9 (by omega))) (fun k hk => hk))
      case measure => simp [RowKit.intOf]; omega
    · have hii : l = o.ch := by rw [HLT2.out, show l.length = o.ch.length by omega, List.take_length]
      subst hii
      obtain ⟨y0, y1, y2, y3, y4, y5⟩ := cells6 hxl
      go_wp2_with (first
        | (refine store_part rfl 36 (.tmp 2) (.tmp 33) rfl (w.heap.size + 1) 0 (.agg #[.int .i64 o.k, .string U, .string T, .int .i64 o.ver, .slice pl o.ch.length cl, .string I]) [.int .i64 o.k, .string U, .string T, .int .i64 o.ver, .slice pl o.ch.length cl, .string I] rfl rfl rfl (by kernel_rfl) (fun u hu => by simp only [List.mem_cons, List.not_mem_nil, or_false] at hu; rcases hu with rfl | rfl | rfl | rfl | rfl | rfl <;> rfl) _ #[.int .i64 o.k, .string U, .string T, .int .i64 o.ver, .slice pl o.ch.length cl, .string I] 36 HJ1.out (Nat.le_of_ble_eq_true rfl) rfl (fun V9 hV9 hg9 _ => ?_)))
      refine bodyPost_ret (ret_o1 Tryz.results22 rfl hV9) rfl ?_
      have hB2 := below_gb (HB13.out.trans (hB.mono (by omega))) hg9 (by omega)
      refine ⟨_, rfl, ⟨pl, cl, rfl, ?_⟩, hB2⟩
      exact row_low (row_fr hown (FrP.of (P := fun q => q = w.heap.size + 1) hg9 rfl) (fun q hq e => by have := row_lt hown hq; omega)) (show w.heap.size ≤ W3.heap.size by omega)
end Go.Proofs.Ls
/- MQ: The reference's Same. Printed by gen_mq.py. -/
namespace Go.Proofs.Ls
open Go.RowKit Go.Maps Go.Lib Go.Proofs.Utf Go.Proofs.Jt Go.Proofs

set_option maxRecDepth 100000 in
set_option maxHeartbeats 16000000 in
theorem same21 {w : World} {B B' : Nat} {v v' : Value} {o : OpV} (hv : OpP w 140 B v o) (hv' : OpP w 140 B' v' o) (hl : o.ch.length ≤ 1000000) :
    Calls Tryz.prog 21 #[v, v'] w fun e w' => e = .returned (.bool true) ∧ Below w.heap.size w w' := by
  obtain ⟨p, c, rfl, hrow⟩ := hv
  obtain ⟨p', c', rfl, hrow'⟩ := hv'
  obtain ⟨U, hU⟩ : ∃ U : ByteArray, (⟨o.uri.toArray⟩ : ByteArray) = U := ⟨_, rfl⟩
  obtain ⟨T, hT⟩ : ∃ U : ByteArray, (⟨o.text.toArray⟩ : ByteArray) = U := ⟨_, rfl⟩
  obtain ⟨I, hI⟩ : ∃ U : ByteArray, (⟨o.id.toArray⟩ : ByteArray) = U := ⟨_, rfl⟩
  rw [hU, hT, hI]
  obtain ⟨W1, hW1⟩ : ∃ W, w.alloc (.cells #[.int .i64 o.k, .string U, .string T, .int .i64 o.ver, .slice p o.ch.length c, .string I] 36) = W := ⟨_, rfl⟩
  obtain ⟨W, hW⟩ : ∃ W, W1.alloc (.cells #[.int .i64 o.k, .string U, .string T, .int .i64 o.ver, .slice p' o.ch.length c', .string I] 36) = W := ⟨_, rfl⟩
  have bW1 := alloc_b hW1
  have bW2 := alloc_b hW
  have bW := Below.on bW1 bW2
  have z1 : W1.heap.size = w.heap.size + 1 := by rw [← hW1]; simp
  have hx := (bW2.block _ (by omega)).trans (row_at hW1)
  have hy := row_at hW
  rw [z1] at hy
  have HX : Hid (∀ V, Below W.heap.size W V → _) := Lib.hid fun V hV => cells6 ((hV.block _ (ltS hx)).trans hx)
  have HY : Hid (∀ V, Below W.heap.size W V → _) := Lib.hid fun V hV => cells6 ((hV.block _ (ltS hy)).trans hy)
  have HR := Lib.hid (own_below hrow bW)
  have HR' := Lib.hid (own_below hrow' bW)
  have HBW := Lib.hid bW
  have hln : o.ch.length ≤ 1000000 := hl
  subst hW1
  clear hrow hrow' bW1 bW2 bW hx hy hU hT hI hl
  obtain ⟨c0, c1, c2, c3, c4, c5⟩ := HX.out W (Below.refl _ _)
  obtain ⟨d0, d1, d2, d3, d4, d5⟩ := HY.out W (Below.refl _ _)
  go_enter Tryz.func21, Tryz.ntmps21
  go_wp2_with fail
  go_loopw [5] (fun iv wr => ∃ i : Nat, iv = .int .i64 i ∧ i ≤ o.ch.length ∧ Below W.heap.size W wr) (fun iv _ => o.ch.length - (RowKit.intOf iv).toNat)
  case atStart => exact ⟨0, rfl, Nat.zero_le _, Below.refl _ _⟩
  case round =>
    obtain ⟨i, rfl, hi, hB⟩ := hrel
    clear c0 c1 c2 c3 c4 c5 d0 d1 d2 d3 d4 d5
    obtain ⟨c0, c1, c2, c3, c4, c5⟩ := HX.out wr hB
    obtain ⟨d0, d1, d2, d3, d4, d5⟩ := HY.out wr hB
    by_cases hin : (i : Int) < (o.ch.length : Int)
    · obtain ⟨y, hy⟩ : ∃ y, o.ch[i]? = some y := ⟨_, List.getElem?_eq_getElem (by omega)⟩
      obtain ⟨a, rfl, hcc⟩ := row_el HR.out hy
      obtain ⟨a', rfl, hcc'⟩ := row_el HR'.out hy
      obtain ⟨Y, hY⟩ : ∃ U : ByteArray, (⟨y.text.toArray⟩ : ByteArray) = U := ⟨_, rfl⟩
      have HS : Hid (∀ v, Below W.heap.size W v → (v.cell? (a.add (i * 6)) = some (.bool y.whole) ∧ v.cell? ⟨(a.add (i * 6)).block, (a.add (i * 6)).off + 1, none⟩ = some (.int .i64 y.a.1) ∧ v.cell? ⟨(a.add (i * 6)).block, (a.add (i * 6)).off + 2, none⟩ = some (.int .i64 y.a.2) ∧ v.cell? ⟨(a.add (i * 6)).block, (a.add (i * 6)).off + 3, none⟩ = some (.int .i64 y.b.1) ∧ v.cell? ⟨(a.add (i * 6)).block, (a.add (i * 6)).off + 4, none⟩ = some (.int .i64 y.b.2) ∧ v.cell? ⟨(a.add (i * 6)).block, (a.add (i * 6)).off + 5, none⟩ = some (.string Y)) ∧ (v.cell? (a'.add (i * 6)) = some (.bool y.whole) ∧ v.cell? ⟨(a'.add (i * 6)).block, (a'.add (i * 6)).off + 1, none⟩ = some (.int .i64 y.a.1) ∧ v.cell? ⟨(a'.add (i * 6)).block, (a'.add (i * 6)).off + 2, none⟩ = some (.int .i64 y.a.2) ∧ v.cell? ⟨(a'.add (i * 6)).block, (a'.add (i * 6)).off + 3, none⟩ = some (.int .i64 y.b.1) ∧ v.cell? ⟨(a'.add (i * 6)).block, (a'.add (i * 6)).off + 4, none⟩ = some (.int .i64 y.b.2) ∧ v.cell? ⟨(a'.add (i * 6)).block, (a'.add (i * 6)).off + 5, none⟩ = some (.string Y))) := Lib.hid fun V hV => by
        have q := hcc.below hV
        have q' := hcc'.below hV
        exact ⟨⟨q.c0, q.c1, q.c2, q.c3, q.c4, by rw [← hY]; exact q.c5⟩, ⟨q'.c0, q'.c1, q'.c2, q'.c3, q'.c4, by rw [← hY]; exact q'.c5⟩⟩
      clear hcc hcc' hY hy
      go_upto_region 6 with fail
      obtain ⟨⟨e0, e1, e2, e3, e4, e5⟩, ⟨g0, g1, g2, g3, g4, g5⟩⟩ := HS.out wr hB
      go_quiet (fail)
      go_wp2_with fail
      go_roundw
      case rel => exact ⟨i + 1, by go_num, by omega, below_draws hB _⟩
      case measure => simp [RowKit.intOf]; omega
    · go_wp2
      go_ret
      exact ⟨rfl, Below.on HBW.out hB⟩
end Go.Proofs.Ls
