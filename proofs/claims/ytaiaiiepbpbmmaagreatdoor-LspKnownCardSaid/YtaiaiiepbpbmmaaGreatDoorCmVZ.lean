/- Merged texts: V14, VB. -/
import Derived.Test.YtaiaiiepbpbmmaaGreatDoorCmVY
/- V14: The reader of JSON: what it is in memory; is, take. -/
namespace Go.Proofs.Jt
open Go.RowKit Go.Maps Go.Lib Go.Proofs.Utf Go.Proofs

theorem gb_set (w : World) (b o : Nat) (v : Value) : w.grownBy (w.setCell ⟨b, o, none⟩ v) (some b) :=
 ⟨rfl, rfl, rfl, (by simp), fun k _ hk => Below.heap_setCell _ _ _ k (fun e => hk (by rw [e]))⟩
/-- words in memory, from a place on -/
def TokP (w : World) (R : Nat) (p : Option Addr) (K : List KT) : Prop := ∀ (i k : Nat) (x : List UInt8), K[i]? = some (k, x) → ∃ b o, p = some ⟨b, o, none⟩ ∧ b < R ∧ w.cell? ⟨b, o + i * 4, none⟩ = some (.int .i64 k) ∧ w.cell? ⟨b, o + i * 4 + 1, none⟩ = some (.string ⟨x.toArray⟩) ∧ x.length ≤ 16777216 ∧ k ≤ 4 ∧ (k = 2 → x = wNull ∨ x = wFalse ∨ x = wTrue) ∧ ∃ u v : Int, w.cell? ⟨b, o + i * 4 + 2, none⟩ = some (.int .i64 u) ∧ w.cell? ⟨b, o + i * 4 + 3, none⟩ = some (.int .i64 v)
theorem cell_same {w w' : World} {b o : Nat} {x : Value} (h : w.cell? ⟨b, o, none⟩ = some x) (he : w'.heap[b]? = w.heap[b]?) : w'.cell? ⟨b, o, none⟩ = some x := by
 unfold World.cell? at h ⊢
 simp only [he]
 exact h
theorem TokP.kept {w w' : World} {R : Nat} {p : Option Addr} {K : List KT} (h : TokP w R p K) (he : ∀ b, b < R → b < w.heap.size → w'.heap[b]? = w.heap[b]?) : TokP w' R p K := fun i k x hk => by
 obtain ⟨b, o, h1, h2, h3, h4, h5, h6, h7, u, v, h8, h9⟩ := h i k x hk
 have e := he b h2 (cell_blk h3)
 exact ⟨b, o, h1, h2, cell_same h3 e, cell_same h4 e, h5, h6, h7, u, v, cell_same h8 e, cell_same h9 e⟩
theorem TokP.tail {w : World} {R b o : Nat} {y : KT} {K : List KT} (h : TokP w R (some ⟨b, o, none⟩) (y :: K)) : TokP w R (some ⟨b, o + 4, none⟩) K := fun i k x hk => by
 obtain ⟨b', o', h1, h2, h3, h4, h5⟩ := h (i + 1) k x hk
 obtain ⟨rfl, rfl⟩ : b = b' ∧ o = o' := by injection h1 with h1; injection h1 with h1 h2; exact ⟨h1, h2⟩
 have e : o + (i + 1) * 4 = o + 4 + i * 4 := by omega
 rw [e] at h3 h4 h5
 exact ⟨b, o + 4, rfl, h2, h3, h4, h5⟩
/-- a reader: what is left, whether it fell, whether a key came twice -/
def RD (w : World) (R : Nat) (K : List KT) (bad tw : Bool) : Prop := ∃ p c, w.heap[R]? = some (.cells #[.slice p K.length c, .bool bad, .bool tw] 170 (0, 0)) ∧ K.length ≤ c ∧ c ≤ maxLen ∧ TokP w R p K
theorem RD.lt {w : World} {R : Nat} {K : List KT} {bad tw : Bool} (h : RD w R K bad tw) : R < w.heap.size := by
 obtain ⟨p, c, h1, _⟩ := h
 exact (ltS h1)
theorem RD.same {w w' : World} {R : Nat} {K : List KT} {bad tw : Bool} (h : RD w R K bad tw) (he : ∀ b, b ≤ R → b < w.heap.size → w'.heap[b]? = w.heap[b]?) : RD w' R K bad tw := by
 have hl := h.lt
 obtain ⟨p, c, h1, h2, h3, h4⟩ := h
 exact ⟨p, c, (he R (Nat.le_refl _) hl).trans h1, h2, h3, h4.kept fun b hb hs => he b (by omega) hs⟩
theorem RD.kept {w w' : World} {R : Nat} {K : List KT} {bad tw : Bool} (h : RD w R K bad tw) {row : Nat} (hg : w.grownBy w' (some row)) (hr : R < row) : RD w' R K bad tw :=
 h.same fun b hb hs => hg.block b hs (by intro e; cases e; omega)
theorem RD.below {w w' : World} {R : Nat} {K : List KT} {bad tw : Bool} (h : RD w R K bad tw) (hb : Below w.heap.size w w') : RD w' R K bad tw := h.same fun b _ hs => hb.block b hs
theorem cells3 {w : World} {R : Nat} {a b c : Value} {t : TypeId} (h : w.heap[R]? = some (.cells #[a, b, c] t (0, 0))) : w.cell? ⟨R, 0, none⟩ = some a ∧ w.cell? ⟨R, 1, none⟩ = some b ∧ w.cell? ⟨R, 2, none⟩ = some c ∧ ∀ o, w.frozen? ⟨R, o, none⟩ = false := by
 refine ⟨?_, ?_, ?_, fun o => ?_⟩
 · simp [World.cell?, h]
 · simp [World.cell?, h]
 · simp [World.cell?, h]
 · simp [World.frozen?, h]
theorem heap_setCell_self {w : World} {R : Nat} {cs : Array Value} {t : TypeId} {f : Nat × Nat} (h : w.heap[R]? = some (.cells cs t f)) (o : Nat) (v : Value) : (w.setCell ⟨R, o, none⟩ v).heap[R]? = some (.cells (cs.setIfInBounds o v) t f) := by
 obtain ⟨hlt, hk⟩ := Array.getElem?_eq_some_iff.1 h
 show (w.heap.modify R _)[R]? = _
 rw [Array.getElem?_eq_getElem (by rw [Array.size_modify]; exact hlt), Array.getElem_modify_self, hk]
 rfl
theorem set_other {w : World} {R k o : Nat} {v : Value} (h : k ≠ R) : (w.setCell ⟨R, o, none⟩ v).heap[k]? = w.heap[k]? := Below.heap_setCell _ _ _ k h
/-- the reader goes on by one word -/
theorem RD.step {w : World} {R b o c : Nat} {y : KT} {K : List KT} {bad tw : Bool} (h1 : w.heap[R]? = some (.cells #[.slice (some ⟨b, o, none⟩) (K.length + 1) c, .bool bad, .bool tw] 170 (0, 0))) (h2 : K.length + 1 ≤ c) (h3 : c ≤ maxLen) (h4 : TokP w R (some ⟨b, o, none⟩) (y :: K)) :
 RD (w.setCell ⟨R, 0, none⟩ (.slice (some ⟨b, o + 4, none⟩) K.length (c - 1))) R K bad tw :=
 ⟨some ⟨b, o + 4, none⟩, c - 1, heap_setCell_self h1 0 _, by omega, by omega, h4.tail.kept fun k hk _ => set_other (by omega)⟩
theorem RD.last {w : World} {R c : Nat} {p : Option Addr} {y : KT} {K : List KT} {bad tw : Bool} (h1 : w.heap[R]? = some (.cells #[.slice p (K.length + 1) c, .bool bad, .bool tw] 170 (0, 0))) (h2 : K.length + 1 ≤ c) (_h4 : TokP w R p (y :: K)) (hc : c = 1) :
 RD (w.setCell ⟨R, 0, none⟩ (.slice p 0 0)) R K bad tw := by
 cases K with
 | nil => exact ⟨p, 0, heap_setCell_self h1 0 _, Nat.le_refl _, Nat.zero_le _, fun i k x hk => by cases hk⟩
 | cons z K => simp at h2; omega
theorem RD.fall {w : World} {R : Nat} {K : List KT} {bad tw : Bool} (h : RD w R K bad tw) : RD (w.setCell ⟨R, 1, none⟩ (.bool true)) R K true tw := by
 obtain ⟨p, c, h1, h2, h3, h4⟩ := h
 exact ⟨p, c, heap_setCell_self h1 1 _, h2, h3, h4.kept fun k hk _ => set_other (by omega)⟩
theorem RD.twice {w : World} {R : Nat} {K : List KT} {bad tw : Bool} (h : RD w R K bad tw) (tw' : Bool) : RD (w.setCell ⟨R, 2, none⟩ (.bool tw')) R K bad tw' := by
 obtain ⟨p, c, h1, h2, h3, h4⟩ := h
 exact ⟨p, c, heap_setCell_self h1 2 _, h2, h3, h4.kept fun k hk _ => set_other (by omega)⟩
theorem str_ways {x : List UInt8} {X M : ByteArray} (hX : (⟨x.toArray⟩ : ByteArray) = X) : (x = M.data.toList ∧ X = M) ∨ (x ≠ M.data.toList ∧ ¬ X.toList = M.toList ∧ (X.toList == M.toList) = false ∧ (X.toList != M.toList) = true) := by
 by_cases e : x = M.data.toList
 · refine .inl ⟨e, ?_⟩
   rw [← hX, e]
 · have hne : X ≠ M := by rintro rfl; exact e (by rw [← hX])
   exact .inr ⟨e, str_ne hne⟩
set_option maxRecDepth 100000 in
set_option maxHeartbeats 2000000 in
theorem is_any {w : World} {R : Nat} {K : List KT} {bad tw : Bool} (h : RD w R K bad tw) (m : ByteArray) :
 Calls Tryz.prog 163 #[.pointer (some ⟨R, 0, none⟩), .string m] w fun e w' => e = .returned (.bool (decide (K.head? = some (1, m.data.toList)))) ∧ w.grownBy w' (some R) ∧ RD w' R (if K.head? = some (1, m.data.toList) then K.tail else K) bad tw ∧ w'.heap.size = w.heap.size := by
 have h0 := h
 obtain ⟨p, c, h1, h2, h3, h4⟩ := h
 obtain ⟨c0, c1, c2, cf⟩ := cells3 h1
 unfold maxLen at h3
 cases K with
 | nil =>
  rw [if_neg (by simp)]
  have H0 := Lib.hid h0
  simp only [List.length_nil] at c0
  have cf0 := cf 0
  clear h0 h1 h4 h2 h3 cf
  go_enter Tryz.func163, Tryz.ntmps163
  go_wp2
  go_ret
  exact ⟨rfl, World.grownBy.refl _ _, H0.out, rfl⟩
 | cons y K =>
  obtain ⟨k, x⟩ := y
  obtain ⟨b, o, rfl, hb, k0, k1, hx, hk4, -⟩ := h4 0 k x rfl
  rw [Nat.zero_mul, Nat.add_zero] at k0 k1
  obtain ⟨X, hX⟩ : ∃ X : ByteArray, (⟨x.toArray⟩ : ByteArray) = X := ⟨_, rfl⟩
  rw [hX] at k1
  simp only [List.length_cons] at c0 h2
  have cf0 := cf 0
  have H0 := Lib.hid h0
  have HS := Lib.hid (RD.step h1 (by simpa using h2) (by unfold maxLen; exact h3) h4)
  have HL := Lib.hid (RD.last h1 (by simpa using h2) h4)
  have hw := str_ways (M := m) hX
  clear h0 h1 h4 hX
  by_cases hk1 : k = 1
  · subst hk1
    rcases hw with ⟨hxm, hXM⟩ | ⟨hne, n1, n2, n3⟩
    · have hd : ((1, x) :: K : List KT).head? = some (1, m.data.toList) := by rw [hxm]; rfl
      rw [if_pos hd, decide_eq_true hd]
      subst hXM
      have hs := str_same X
      clear hd hxm
      by_cases hc1 : c = 1
      · have HL1 := Lib.hid (HL.out hc1)
        subst hc1
        go_enter Tryz.func163, Tryz.ntmps163
        go_wp2
        go_ret
        exact ⟨rfl, gb_set _ _ _ _, HL1.out, by simp⟩
      · go_enter Tryz.func163, Tryz.ntmps163
        go_wp2
        go_ret
        exact ⟨rfl, gb_set _ _ _ _, HS.out, by simp⟩
    · have hd : ¬ ((1, x) :: K : List KT).head? = some (1, m.data.toList) := by simpa using hne
      rw [if_neg hd, decide_eq_false hd]
      clear hd
      go_enter Tryz.func163, Tryz.ntmps163
      go_wp2
      go_ret
      exact ⟨rfl, World.grownBy.refl _ _, H0.out, rfl⟩
  · have hd : ¬ ((k, x) :: K : List KT).head? = some (1, m.data.toList) := by simp [hk1]
    rw [if_neg hd, decide_eq_false hd]
    have n1 : ((k : Int) != 1) = true := by simp; omega
    clear hd hw
    go_enter Tryz.func163, Tryz.ntmps163
    go_wp2
    go_ret
    exact ⟨rfl, World.grownBy.refl _ _, H0.out, rfl⟩
set_option maxRecDepth 100000 in
set_option maxHeartbeats 2000000 in
theorem take_any {w : World} {R : Nat} {k : Nat} {x : List UInt8} {K : List KT} {tw : Bool} (h : RD w R ((k, x) :: K) false tw) :
 Calls Tryz.prog 166 #[.pointer (some ⟨R, 0, none⟩), .int .i64 k] w fun e w' => e = .returned (.string ⟨x.toArray⟩) ∧ w.grownBy w' (some R) ∧ RD w' R K false tw ∧ w'.heap.size = w.heap.size := by
 obtain ⟨p, c, h1, h2, h3, h4⟩ := h
 obtain ⟨c0, c1, c2, cf⟩ := cells3 h1
 unfold maxLen at h3
 obtain ⟨b, o, rfl, hb, k0, k1, hx, hk4, -⟩ := h4 0 k x rfl
 rw [Nat.zero_mul, Nat.add_zero] at k0 k1
 obtain ⟨X, hX⟩ : ∃ X : ByteArray, (⟨x.toArray⟩ : ByteArray) = X := ⟨_, rfl⟩
 rw [hX] at k1 ⊢
 simp only [List.length_cons] at c0 h2
 have cf0 := cf 0
 have HS := Lib.hid (RD.step h1 (by simpa using h2) (by unfold maxLen; exact h3) h4)
 have HL := Lib.hid (RD.last h1 (by simpa using h2) h4)
 clear h1 h4 hX
 by_cases hc1 : c = 1
 · have HL1 := Lib.hid (HL.out hc1)
   subst hc1
   go_enter Tryz.func166, Tryz.ntmps166
   go_wp2
   go_ret
   exact ⟨rfl, gb_set _ _ _ _, HL1.out, by simp⟩
 · go_enter Tryz.func166, Tryz.ntmps166
   go_wp2
   go_ret
   exact ⟨rfl, gb_set _ _ _ _, HS.out, by simp⟩
set_option maxRecDepth 100000 in
set_option maxHeartbeats 2000000 in
theorem take_bad {w : World} {R : Nat} {k : Nat} {K : List KT} {bad tw : Bool} (h : RD w R K bad tw) (hk : bad = true ∨ ∀ x, K.head? ≠ some (k, x)) :
 Calls Tryz.prog 166 #[.pointer (some ⟨R, 0, none⟩), .int .i64 k] w fun e w' => e = .returned (.string ⟨#[]⟩) ∧ w.grownBy w' (some R) ∧ RD w' R K true tw ∧ w'.heap.size = w.heap.size := by
 have HF := Lib.hid h.fall
 obtain ⟨p, c, h1, h2, h3, h4⟩ := h
 obtain ⟨c0, c1, c2, cf⟩ := cells3 h1
 unfold maxLen at h3
 have cf0 := cf 1
 cases bad with
 | true =>
  clear h1 h4 hk
  go_enter Tryz.func166, Tryz.ntmps166
  go_wp2
  go_ret
  exact ⟨rfl, gb_set _ _ _ _, HF.out, by simp⟩
 | false =>
  cases K with
  | nil =>
   simp only [List.length_nil] at c0
   clear h1 h4 hk
   go_enter Tryz.func166, Tryz.ntmps166
   go_wp2
   go_ret
   exact ⟨rfl, gb_set _ _ _ _, HF.out, by simp⟩
  | cons y K =>
   obtain ⟨j, x⟩ := y
   obtain ⟨b, o, rfl, hb, k0, k1, hx, hk4, -⟩ := h4 0 j x rfl
   rw [Nat.zero_mul, Nat.add_zero] at k0 k1
   simp only [List.length_cons] at c0 h2
   have hjk : j ≠ k := by
    rintro rfl
    rcases hk with hk | hk
    · cases hk
    · exact hk x rfl
   have n1 : ((j : Int) != (k : Int)) = true := by simp; omega
   clear h1 h4 hk
   go_enter Tryz.func166, Tryz.ntmps166
   go_wp2
   go_ret
   exact ⟨rfl, gb_set _ _ _ _, HF.out, by simp⟩
/-- a value's box -/
def JBox (w : World) (z : Nat) : Prop := ∃ a b c d, w.heap[z]? = some (.cells #[a, b, c, d] 25 (0, 0))
theorem JBox.same {w w' : World} {z : Nat} (h : JBox w z) (he : w'.heap[z]? = w.heap[z]?) : JBox w' z := by
 obtain ⟨a, b, c, d, h⟩ := h
 exact ⟨a, b, c, d, he.trans h⟩
theorem JBox.lt {w : World} {z : Nat} (h : JBox w z) : z < w.heap.size := by
 obtain ⟨a, b, c, d, h⟩ := h
 exact (ltS h)
theorem heap_setRow_self {w : World} {R : Nat} {cs ds : Array Value} {t : TypeId} {f : Nat × Nat} (h : w.heap[R]? = some (.cells cs t f)) : (w.setRow R ds).heap[R]? = some (.cells ds t f) := by
 obtain ⟨hlt, hk⟩ := Array.getElem?_eq_some_iff.1 h
 show (w.heap.modify R _)[R]? = _
 rw [Array.getElem?_eq_getElem (by rw [Array.size_modify]; exact hlt), Array.getElem_modify_self, hk]
theorem gb_setRow (w : World) (R : Nat) (ds : Array Value) : w.grownBy (w.setRow R ds) (some R) :=
 ⟨rfl, rfl, rfl, by show w.heap.size ≤ (w.heap.modify R _).size; rw [Array.size_modify]; exact Nat.le_refl _, fun k hk hne => by
  show (w.heap.modify R _)[k]? = _
  rw [Array.getElem?_modify, if_neg (fun e => hne (by rw [e]))]⟩
theorem store_val {ops : Array Oper} {rest : List Oper} {op : Oper} {a : Act} {w : World} {Q : Exit → Act → World → Prop} (hgd : op.guard = none) (x y : Operand) (ho : op.op = .store 25 x y) (z : Nat) (hx : a.eval x = .pointer (some ⟨z, 0, none⟩))
 (v0 v1 v2 v3 : Value) (hy : a.eval y = .agg #[v0, v1, v2, v3]) (h1 : (v0.oneCell' && v1.oneCell' && v2.oneCell' && v3.oneCell') = true) (hz : JBox w z)
 (h : ∀ W, W.heap[z]? = some (.cells #[v0, v1, v2, v3] 25 (0, 0)) → w.grownBy W (some z) → W.heap.size = w.heap.size → wpList Tryz.prog ops Q rest (a.put op.dst undef) W) : wpList Tryz.prog ops Q (op :: rest) a w := by
 obtain ⟨a0, a1, a2, a3, hz⟩ := hz
 refine wpList_store_row hgd 25 x y ho z #[v0, v1, v2, v3] hx hy 25 #[a0, a1, a2, a3] hz (by kernel_rfl) rfl (by simpa [Bool.and_assoc] using h1) ?_
 exact h _ (heap_setRow_self hz) (gb_setRow _ _ _) (by show (w.heap.modify z _).size = _; rw [Array.size_modify])
theorem JBox.alloc (w : World) (a b c d : Value) : JBox (w.alloc (.cells #[a, b, c, d] 25)) w.heap.size := ⟨a, b, c, d, World.alloc_heap_new w _⟩
theorem ret_val {fn : Func} {p : Tmp} (h : fn.results = #[.cell p 25]) {tmps : Array Value} {w : World} {g : Nat} (hp : tmps.getD p undef = .pointer (some ⟨g, 0, none⟩)) {v0 v1 v2 v3 : Value} (hg : w.heap[g]? = some (.cells #[v0, v1, v2, v3] 25 (0, 0))) :
 (results fn tmps).run Tryz.prog w = .ok (.agg #[v0, v1, v2, v3]) w := results_cell_row h tmps w g 25 _ _ _ hp hg Tryz.underlying25 rfl (by kernel_rfl)
theorem gb_below {w w' : World} {row : Option Nat} (h : Below w.heap.size w w') : w.grownBy w' row := ⟨h.os, h.tape, h.output, h.size, fun k hk _ => h.block k hk⟩
set_option maxRecDepth 100000 in
set_option maxHeartbeats 2000000 in
/-- a reader that has fell reads nothing more; so one that has come to its end -/
theorem value_bad {w : World} {R : Nat} {K : List KT} {bad tw : Bool} (h : RD w R K bad tw) (hk : bad = true ∨ K = []) :
 Calls Tryz.prog 112 #[.pointer (some ⟨R, 0, none⟩)] w fun e w' => e = .returned (.agg #[.int .i64 0, .string ⟨#[]⟩, .slice none 0 0, .slice none 0 0]) ∧ w.grownBy w' (some R) ∧ RD w' R K true tw := by
 have hlt := h.lt
 obtain ⟨W, hW⟩ : ∃ W, w.alloc (.cells #[.int .i64 0, .string ⟨#[]⟩, .slice none 0 0, .slice none 0 0] 25) = W := ⟨_, rfl⟩
 have bW : Below w.heap.size w W := by rw [← hW]; exact (Below.refl _ _).alloc (Nat.le_refl _) _
 have h' := h.below bW
 have hz0 : JBox W w.heap.size := by rw [← hW]; exact JBox.alloc _ _ _ _ _
 have HB := Lib.hid bW
 have HF := Lib.hid h'.fall
 obtain ⟨p, c, h1, h2, h3, h4⟩ := h'
 obtain ⟨c0, c1, c2, cf⟩ := cells3 h1
 unfold maxLen at h3
 have cf0 := cf 1
 have HBX : Hid (JBox (W.setCell ⟨R, 1, none⟩ (.bool true)) w.heap.size) := Lib.hid (hz0.same (set_other (by omega)))
 have HLT := Lib.hid hlt
 clear h hz0 bW hlt
 rcases hk with rfl | rfl
 · clear h1 h4
   go_enter Tryz.func112, Tryz.ntmps112
   go_wp2_with (first | (refine store_val rfl (.tmp 2) (.tmp 20) rfl w.heap.size rfl (.int .i64 0) (.string ⟨#[]⟩) (.slice none 0 0) (.slice none 0 0) rfl rfl HBX.out (fun V hV hgV _ => ?_)))
   have hl := HLT.out
   refine bodyPost_ret (ret_val Tryz.results112 rfl hV) rfl ⟨rfl, ?_, HF.out.kept hgV hl⟩
   exact ((gb_below (row := some R) HB.out).trans (gb_set W R 1 _)).andThen hgV fun j e => .inl (by cases e; exact Nat.le_refl _)
 · simp only [List.length_nil] at c0
   cases bad with
   | true =>
    clear h1 h4
    go_enter Tryz.func112, Tryz.ntmps112
    go_wp2_with (first | (refine store_val rfl (.tmp 2) (.tmp 20) rfl w.heap.size rfl (.int .i64 0) (.string ⟨#[]⟩) (.slice none 0 0) (.slice none 0 0) rfl rfl HBX.out (fun V hV hgV _ => ?_)))
    have hl := HLT.out
    refine bodyPost_ret (ret_val Tryz.results112 rfl hV) rfl ⟨rfl, ?_, HF.out.kept hgV hl⟩
    exact ((gb_below (row := some R) HB.out).trans (gb_set W R 1 _)).andThen hgV fun j e => .inl (by cases e; exact Nat.le_refl _)
   | false =>
    clear h1 h4
    go_enter Tryz.func112, Tryz.ntmps112
    go_wp2_with (first | (refine store_val rfl (.tmp 2) (.tmp 20) rfl w.heap.size rfl (.int .i64 0) (.string ⟨#[]⟩) (.slice none 0 0) (.slice none 0 0) rfl rfl HBX.out (fun V hV hgV _ => ?_)))
    have hl := HLT.out
    refine bodyPost_ret (ret_val Tryz.results112 rfl hV) rfl ⟨rfl, ?_, HF.out.kept hgV hl⟩
    exact ((gb_below (row := some R) HB.out).trans (gb_set W R 1 _)).andThen hgV fun j e => .inl (by cases e; exact Nat.le_refl _)
end Go.Proofs.Jt
/- VB: Merged texts: V15, V16, VM, VN. -/
/- V15: Values of JSON in memory whose blocks are known; rows of values; keys that were counted; what a list's reading holds. -/
namespace Go.Proofs.Jt
open Go.RowKit Go.Maps Go.Lib Go.Proofs.Utf Go.Proofs

/-- a row begins at its block's head -/
def RowAt (w : World) (a : Addr) (t : TypeId) (n : Nat) : Prop := ∃ g cs, a = ⟨g, 0, none⟩ ∧ w.heap[g]? = some (.cells cs t (0, 0)) ∧ n ≤ cs.size
theorem RowAt.keep {w w' : World} {a : Addr} {t : TypeId} {n : Nat} (h : RowAt w a t n) (e : w'.heap[a.block]? = w.heap[a.block]?) : RowAt w' a t n := by
 obtain ⟨g, cs, rfl, h2, h3⟩ := h
 exact ⟨g, cs, rfl, e.trans h2, h3⟩
theorem row_at {w : World} {lo e size n : Nat} {p : Option Addr} {c : Nat} {xs : List Value} (h : w.ownsRow lo e size (.slice p n c) n xs) : ∀ a, p = some a → RowAt w a e (n * size) := fun a ha => by
 obtain ⟨_, h⟩ := h
 rcases h with ⟨h, _⟩ | ⟨g, cap, cur, h, h1, h2, h3, h4, h5, h6⟩
 · cases h; cases ha
 · cases h
   cases ha
   exact ⟨g, cur, rfl, h2, by rw [h5]; exact Nat.mul_le_mul_right _ h3⟩
/-- a value in memory, all of whose blocks are P -/
inductive KP (w : World) (P : Nat → Prop) : JV → Option Addr → Nat → Option Addr → Nat → Prop
 | mk (x : JV) (kp : Option Addr) (kc : Nat) (ip : Option Addr) (ic : Nat) (fp : Nat → Option Addr) (fc : Nat → Nat) (gp : Nat → Option Addr) (gc : Nat → Nat)
  (hk : StrsP w kp x.keys) (hkP : ∀ a, kp = some a → (P a.block ∧ a.block < w.heap.size) ∧ RowAt w a 9 x.keys.length) (hz : x.items.length ≤ maxLen ∧ x.keys.length ≤ maxLen ∧ ∀ s ∈ x.keys, s.length ≤ maxLen)
  (hi : ∀ (i : Nat) (y : JV), x.items[i]? = some y → y.str.length ≤ maxLen ∧ ∃ a, ip = some a ∧ JC w (a.add (i * 4)) y (fp i) (fc i) (gp i) (gc i)) (hiP : ∀ a, ip = some a → (P a.block ∧ a.block < w.heap.size) ∧ RowAt w a 25 (x.items.length * 4))
  (h : ∀ (i : Nat) (y : JV), x.items[i]? = some y → KP w P y (fp i) (fc i) (gp i) (gc i)) : KP w P x kp kc ip ic
theorem KP.ki {w : World} {P : Nat → Prop} {x : JV} {kp ip : Option Addr} {kc ic : Nat} (h : KP w P x kp kc ip ic) : KI w x kp kc ip ic := by
 induction h with
 | mk x kp kc ip ic fp fc gp gc hk hkP hz hi hiP _ ih => exact .mk x kp kc ip ic fp fc gp gc hk hz hi ih
theorem KP.keep {w w' : World} {P P' : Nat → Prop} {x : JV} {kp ip : Option Addr} {kc ic : Nat} (h : KP w P x kp kc ip ic) (hs : w.heap.size ≤ w'.heap.size) (hw : ∀ b, P b → b < w.heap.size → w'.heap[b]? = w.heap[b]?) (hP : ∀ b, P b → b < w.heap.size → P' b) : KP w' P' x kp kc ip ic := by
 induction h with
 | mk x kp kc ip ic fp fc gp gc hk hkP hz hi hiP _ ih =>
  refine .mk x kp kc ip ic fp fc gp gc (fun i s hx => ?_) (fun a ha => ?_) hz (fun i y hy => ?_) (fun a ha => ?_) ih
  · obtain ⟨a, h1, h2, h3⟩ := hk i s hx
    obtain ⟨p1, p2⟩ := (hkP a h1).1
    exact ⟨a, h1, (World.cell?_of_block (by rw [add_blk]; exact hw _ p1 p2)).trans h2, Nat.lt_of_lt_of_le h3 hs⟩
  · obtain ⟨⟨p1, p2⟩, p3⟩ := hkP a ha
    exact ⟨⟨hP _ p1 p2, Nat.lt_of_lt_of_le p2 hs⟩, p3.keep (hw _ p1 p2)⟩
  · obtain ⟨h1, a, h2, h3⟩ := hi i y hy
    obtain ⟨p1, p2⟩ := (hiP a h2).1
    have hb : (a.add (i * 4)).block = a.block := add_blk _ _
    have e := hw _ p1 p2
    exact ⟨h1, a, h2, (World.cell?_of_block (by rw [hb]; exact e)).trans h3.c0, (World.cell?_of_block (by show w'.heap[(a.add (i * 4)).block]? = w.heap[(a.add (i * 4)).block]?; rw [hb]; exact e)).trans h3.c1, (World.cell?_of_block (by show w'.heap[(a.add (i * 4)).block]? = w.heap[(a.add (i * 4)).block]?; rw [hb]; exact e)).trans h3.c2, (World.cell?_of_block (by show w'.heap[(a.add (i * 4)).block]? = w.heap[(a.add (i * 4)).block]?; rw [hb]; exact e)).trans h3.c3, Nat.lt_of_lt_of_le h3.blk hs⟩
  · obtain ⟨⟨p1, p2⟩, p3⟩ := hiP a ha
    exact ⟨⟨hP _ p1 p2, Nat.lt_of_lt_of_le p2 hs⟩, p3.keep (hw _ p1 p2)⟩
theorem KP.grown {w w' : World} {P : Nat → Prop} {x : JV} {kp ip : Option Addr} {kc ic : Nat} (h : KP w P x kp kc ip ic) {row : Option Nat} (hg : w.grownBy w' row) (hr : ∀ b, P b → some b ≠ row) : KP w' P x kp kc ip ic :=
 h.keep hg.size (fun b hb hl => hg.block b hl (hr b hb)) fun _ hb _ => hb
/-- a value without keys and items -/
theorem KP.leaf (w : World) (P : Nat → Prop) (k : Int) (s : List UInt8) : KP w P (.mk k s [] []) none 0 none 0 :=
 .mk _ none 0 none 0 (fun _ => none) (fun _ => 0) (fun _ => none) (fun _ => 0) (fun i s h => by cases h) (fun a h => by cases h) ⟨Nat.zero_le _, Nat.zero_le _, fun s h => by cases h⟩ (fun i y h => by cases h) (fun a h => by cases h) (fun i y h => by cases h)
/-- an item as it lies in a row -/
structure IC where
 y : JV
 kp : Option Addr
 kc : Nat
 ip : Option Addr
 ic : Nat
def IC.cells (c : IC) : List Value := [.int .i64 c.y.kind, .string ⟨c.y.str.toArray⟩, .slice c.kp c.y.keys.length c.kc, .slice c.ip c.y.items.length c.ic]
def rowC (L : List IC) : List Value := L.flatMap IC.cells
theorem rowC_snoc (L : List IC) (c : IC) : rowC (L ++ [c]) = rowC L ++ c.cells := by simp [rowC]
theorem rowC_get : ∀ (L : List IC) (i : Nat) (c : IC), L[i]? = some c → ∀ j, j < 4 → (rowC L)[i * 4 + j]? = c.cells[j]?
 | [], i, c, h, _, _ => by cases h
 | d :: L, 0, c, h, j, hj => by
  obtain rfl := Option.some.inj h
  show (d.cells ++ rowC L)[0 * 4 + j]? = _
  rw [List.getElem?_append_left (by simp [IC.cells]; omega)]
  congr 1
  omega
 | d :: L, i + 1, c, h, j, hj => by
  show (d.cells ++ rowC L)[(i + 1) * 4 + j]? = _
  rw [List.getElem?_append_right (by simp [IC.cells]; omega)]
  have e : (i + 1) * 4 + j - d.cells.length = i * 4 + j := by simp [IC.cells]; omega
  rw [e]
  exact rowC_get L i c (by simpa using h) j hj
def strC (l : List (List UInt8)) : List Value := l.map fun s => .string ⟨s.toArray⟩
theorem strC_snoc (l : List (List UInt8)) (s : List UInt8) : strC (l ++ [s]) = strC l ++ [.string ⟨s.toArray⟩] := by simp [strC]
theorem add0 (g j : Nat) : (⟨g, 0, none⟩ : Addr).add j = ⟨g, j, none⟩ := by unfold Addr.add; split <;> simp_all
theorem strs_of_row {w : World} {lo n : Nat} {v : Value} {l : List (List UInt8)} (h : w.ownsRow lo 9 1 v n (strC l)) : ∃ p c, v = .slice p n c ∧ StrsP w p l ∧ ∀ a, p = some a → lo ≤ a.block ∧ a.block < w.heap.size := by
 obtain ⟨hl, h⟩ := h
 rcases h with ⟨rfl, rfl⟩ | ⟨g, cap, cur, rfl, h1, h2, h3, h4, h5, h6⟩
 · refine ⟨none, 0, rfl, fun i s hs => ?_, fun a h => by cases h⟩
   simp [strC] at hl
   subst hl
   cases hs
 · refine ⟨some ⟨g, 0, none⟩, cap, rfl, fun i s hs => ⟨_, rfl, ?_, (ltS h2)⟩, fun a h => by cases h; exact ⟨h1, (ltS h2)⟩⟩
   have hc := World.ownsRow.cells (w := w) (base := lo) (e := 9) (size := 1) (v := .slice (some ⟨g, 0, none⟩) n cap) (n := n) (xs := strC l) ⟨hl, .inr ⟨g, cap, cur, rfl, h1, h2, h3, h4, h5, h6⟩⟩ (g := g) rfl i (.string ⟨s.toArray⟩) (by simp [strC, hs])
   exact hc
/-- a value made out of its rows -/
theorem KP.build {w : World} {lo : Nat} {kv iv : Value} {k : Int} {ks : List (List UInt8)} {L : List IC} (hk : w.ownsRow lo 9 1 kv ks.length (strC ks)) (hi : w.ownsRow lo 25 4 iv L.length (rowC L))
 (hc : ∀ c ∈ L, KP w (fun b => lo ≤ b ∧ some b ≠ iv.ownBlock) c.y c.kp c.kc c.ip c.ic ∧ c.y.str.length ≤ maxLen) (hz : L.length ≤ maxLen ∧ ks.length ≤ maxLen ∧ ∀ s ∈ ks, s.length ≤ maxLen) :
 ∃ kp kc ip ic, kv = .slice kp ks.length kc ∧ iv = .slice ip L.length ic ∧ KP w (lo ≤ ·) (.mk k [] ks (L.map (·.y))) kp kc ip ic := by
 obtain ⟨kp, kc, rfl, hs, hsP0⟩ := strs_of_row hk
 have hsP : ∀ a, kp = some a → (lo ≤ a.block ∧ a.block < w.heap.size) ∧ RowAt w a 9 ks.length := fun a ha => ⟨hsP0 a ha, by have := row_at hk a ha; rwa [Nat.mul_one] at this⟩
 have hit : ∀ (i : Nat) (y : JV), (L.map (·.y))[i]? = some y → ∃ c, L[i]? = some c ∧ c.y = y ∧ c ∈ L := fun i y h => by
  rw [List.getElem?_map] at h
  cases hl : L[i]? with
  | none => rw [hl] at h; cases h
  | some c => rw [hl] at h; exact ⟨c, rfl, Option.some.inj h, List.mem_of_getElem? hl⟩
 have hi0 := hi
 obtain ⟨hl, hi⟩ := hi
 rcases hi with ⟨rfl, hn⟩ | ⟨g, cap, cur, rfl, h1, h2, h3, h4, h5, h6⟩
 · have e0 : L = [] := List.eq_nil_of_length_eq_zero hn
   subst e0
   refine ⟨kp, kc, none, 0, rfl, rfl, ?_⟩
   exact .mk _ kp kc none 0 (fun _ => none) (fun _ => 0) (fun _ => none) (fun _ => 0) hs hsP ⟨Nat.zero_le _, hz.2⟩ (fun i y h => by cases h) (fun a h => by cases h) (fun i y h => by cases h)
 · refine ⟨kp, kc, some ⟨g, 0, none⟩, cap, rfl, rfl, ?_⟩
   have hgl := (ltS h2)
   have d0 : IC := ⟨jn 0, none, 0, none, 0⟩
   refine .mk _ kp kc _ cap (fun i => (L.getD i d0).kp) (fun i => (L.getD i d0).kc) (fun i => (L.getD i d0).ip) (fun i => (L.getD i d0).ic) hs hsP ⟨by show (L.map (·.y)).length ≤ _; rw [List.length_map]; exact hz.1, hz.2⟩ (fun i y h => ?_) (fun a h => by cases h; exact ⟨⟨h1, hgl⟩, g, cur, rfl, h2, by show (L.map (·.y)).length * 4 ≤ _; rw [List.length_map, h5]; exact Nat.mul_le_mul_right _ h3⟩) (fun i y h => ?_)
   · obtain ⟨c, hc1, rfl, hc2⟩ := hit i y h
     have hd : L.getD i d0 = c := by rw [List.getD_eq_getElem?_getD, hc1]; rfl
     refine ⟨(hc c hc2).2, _, rfl, ?_⟩
     simp only [hd]
     have hcell : ∀ j u, c.cells[j]? = some u → w.cell? ⟨g, i * 4 + j, none⟩ = some u := fun j u hu => by
      have hj : j < 4 := by
       have := (List.getElem?_eq_some_iff.1 hu).1
       simpa [IC.cells] using this
      have := hi0.cells (g := g) rfl (i * 4 + j) u (by rw [rowC_get L i c hc1 j hj]; exact hu)
      rwa [add0] at this
     rw [add0]
     exact ⟨hcell 0 _ rfl, hcell 1 _ rfl, hcell 2 _ rfl, hcell 3 _ rfl, hgl⟩
   · obtain ⟨c, hc1, rfl, hc2⟩ := hit i y h
     have hd : L.getD i d0 = c := by rw [List.getD_eq_getElem?_getD, hc1]; rfl
     simp only [hd]
     exact (hc c hc2).1.keep (Nat.le_refl _) (fun _ _ _ => rfl) fun _ hb _ => hb.1
/-- how often each key came -/
def MetC (w : World) (M : Nat) (l : List (List UInt8)) : Prop := ∃ D, w.ownsMap Tryz.prog 9 intEl M (Maps.size D) D ∧ Maps.size D ≤ l.length ∧ (∀ u, Maps.has D (.string u) = decide (u ∈ l)) ∧ ∀ u, u ∈ l → ∀ z, D.atKey (.string u) z = .lit (.int .i64 (l.count u : Nat))
theorem MetC.kept {w w' : World} {M : Nat} {l : List (List UInt8)} (h : MetC w M l) {row : Option Nat} (hg : w.grownBy w' row) (hr : some M ≠ row) : MetC w' M l := by
 obtain ⟨D, h1, h2⟩ := h
 exact ⟨D, h1.kept hg hr, h2⟩
theorem MetC.lt {w : World} {M : Nat} {l : List (List UInt8)} (h : MetC w M l) : M < w.heap.size := by
 obtain ⟨D, h1, _⟩ := h
 exact h1.lt
theorem MetC.made (w : World) : MetC (w.alloc (.map #[] 0)) w.heap.size [] := ⟨.map [], World.ownsMap_made w Tryz.prog 9 intEl, Nat.le_refl _, fun _ => rfl, fun u hu => by cases hu⟩
theorem MetC.look {w : World} {M : Nat} {l : List (List UInt8)} (h : MetC w M l) (u : ByteArray) (hu : u.size ≤ maxLen) :
 (Instr.lookup 211 (.map (some M)) (.string u) false).run Tryz.prog w = .ok (.int .i64 (l.count u.data.toList : Nat)) w := by
 obtain ⟨D, h1, h2, h3, h4⟩ := h
 obtain ⟨v, ps, hrun, hv⟩ := h1.lookup lawS Tryz.underlying211 (z := .int .i64 0) (by kernel_rfl) (zd := .lit (.int .i64 0)) (zp := []) rfl (Go.WideMaps.keyOf_string_mk Tryz.underlying9 hu)
 rw [hrun]
 by_cases hm : u.data.toList ∈ l
 · rw [h4 _ hm] at hv
   rw [intEl_int hv]
 · rw [atKey_of_not_has (by rw [h3]; exact decide_eq_false hm)] at hv
   rw [intEl_int hv, List.count_eq_zero_of_not_mem hm]
   rfl
theorem MetC.put {w : World} {M : Nat} {l : List (List UInt8)} (h : MetC w M l) (u : ByteArray) (hu : u.size ≤ maxLen) (hl : l.length < 1000000000) :
 ∃ w', (Instr.mapUpdate 211 (.map (some M)) (.string u) (.int .i64 ((l.count u.data.toList : Nat) + 1))).run Tryz.prog w = .ok () w' ∧ w.grownBy w' (some M) ∧ MetC w' M (u.data.toList :: l) := by
 obtain ⟨D, h1, h2, h3, h4⟩ := h
 obtain ⟨w', k1, k2, ht⟩ := h1.store lawS Tryz.underlying211 (by unfold maxLen; omega) (Go.WideMaps.keyOf_string_mk Tryz.underlying9 hu) (show intEl (.int .i64 ((l.count u.data.toList : Nat) + 1)) = some (.lit (.int .i64 ((l.count u.data.toList : Nat) + 1)), []) from rfl)
 have hsz := size_put (D := D) (k := .string u.data.toList) (h1.tidy lawS) (.lit (.int .i64 ((l.count u.data.toList : Nat) + 1)))
 refine ⟨w', k1, World.mapTurned.grown ht, D.put (.string u.data.toList) (.lit (.int .i64 ((l.count u.data.toList : Nat) + 1))), ownM_tight k2, ?_, fun x => ?_, fun x hx z => ?_⟩
 · rw [hsz, List.length_cons]
   split <;> omega
 · by_cases e : x = u.data.toList
   · subst e
     rw [has_put_same (h1.tidy lawS).isMap (by exact trivial)]
     simp
   · rw [has_put_other (by intro e2; exact e (by cases e2; rfl)), h3]
     simp [e]
 · by_cases e : u.data.toList = x
   · subst e
     rw [atKey_put_same (h1.tidy lawS).isMap (by exact trivial), List.count_cons_self]
     rfl
   · rw [atKey_put_other (by intro e2; exact e (by cases e2; rfl)), List.count_cons_of_ne e]
     refine h4 x ?_ z
     rcases List.mem_cons.1 hx with h | h
     · exact absurd h.symm e
     · exact h
end Go.Proofs.Jt
/- V16: What a list's reading holds; the frames of the reader's closures. -/
namespace Go.Proofs.Jt
open Go.RowKit Go.Maps Go.Lib Go.Proofs.Utf Go.Proofs

/-- all blocks but P's are as they were -/
structure FrP (P : Nat → Prop) (w w' : World) : Prop where
 os : w'.os = w.os
 tape : w'.tape = w.tape
 output : w'.output = w.output
 size : w.heap.size ≤ w'.heap.size
 block : ∀ k, k < w.heap.size → ¬ P k → w'.heap[k]? = w.heap[k]?
theorem FrP.refl (P : Nat → Prop) (w : World) : FrP P w w := ⟨rfl, rfl, rfl, Nat.le_refl _, fun _ _ _ => rfl⟩
theorem FrP.trans {P : Nat → Prop} {a b c : World} (h : FrP P a b) (k : FrP P b c) : FrP P a c :=
 ⟨k.os.trans h.os, k.tape.trans h.tape, k.output.trans h.output, Nat.le_trans h.size k.size, fun i hi hn => (k.block i (Nat.lt_of_lt_of_le hi h.size) hn).trans (h.block i hi hn)⟩
theorem FrP.of {P : Nat → Prop} {w w' : World} {r : Nat} (h : w.grownBy w' (some r)) (hr : P r) : FrP P w w' := ⟨h.os, h.tape, h.output, h.size, fun k hk hn => h.block k hk (fun e => hn (by cases e; exact hr))⟩
theorem FrP.of_none {P : Nat → Prop} {w w' : World} (h : w.grownBy w' none) : FrP P w w' := ⟨h.os, h.tape, h.output, h.size, fun k hk _ => h.block k hk (by simp)⟩
theorem FrP.of_row {P : Nat → Prop} {w w' : World} {v : Value} (h : w.grownBy w' v.ownBlock) (hr : ∀ k, v.ownBlock = some k → P k) : FrP P w w' := ⟨h.os, h.tape, h.output, h.size, fun k hk hn => h.block k hk (fun e => hn (hr k e.symm))⟩
theorem FrP.drew {P : Nat → Prop} {w w' : World} (h : FrP P w w') : FrP P w w'.drew := ⟨h.os, h.tape, h.output, h.size, h.block⟩
theorem FrP.mono {P Q : Nat → Prop} {w w' : World} (h : FrP P w w') (hq : ∀ k, k < w.heap.size → P k → Q k) : FrP Q w w' := ⟨h.os, h.tape, h.output, h.size, fun k hk hn => h.block k hk (fun hp => hn (hq k hk hp))⟩
theorem FrP.alloc {P : Nat → Prop} {w w' : World} (h : FrP P w w') (o : Obj) : FrP P w (w'.alloc o) := h.trans (FrP.of_none (World.grownBy_alloc w' o none))
theorem FrP.gb {P : Nat → Prop} {w w' : World} {r : Nat} (h : FrP P w w') (hp : ∀ k, k < w.heap.size → P k → k = r) : w.grownBy w' (some r) := ⟨h.os, h.tape, h.output, h.size, fun k hk hn => h.block k hk (fun p => hn (by rw [hp k hk p]))⟩
theorem KP.fr {w w' : World} {P Q : Nat → Prop} {x : JV} {kp ip : Option Addr} {kc ic : Nat} (h : KP w Q x kp kc ip ic) (hg : FrP P w w') (hr : ∀ b, Q b → ¬ P b) : KP w' Q x kp kc ip ic :=
 h.keep hg.size (fun b hb hl => hg.block b hl (hr b hb)) fun _ hb _ => hb
theorem RD.fr {w w' : World} {P : Nat → Prop} {R : Nat} {K : List KT} {bad tw : Bool} (h : RD w R K bad tw) (hg : FrP P w w') (hr : ∀ k, k ≤ R → ¬ P k) : RD w' R K bad tw := h.same fun b hb hl => hg.block b hl (hr b hb)
theorem row_fr {w w' : World} {P : Nat → Prop} {lo e size n : Nat} {v : Value} {xs : List Value} (h : w.ownsRow lo e size v n xs) (hg : FrP P w w') (hr : ∀ k, v.ownBlock = some k → ¬ P k) : w'.ownsRow lo e size v n xs := by
 refine ⟨h.1, ?_⟩
 rcases h.2 with h | ⟨g, cap, cur, h1, h2, h3, h4⟩
 · exact .inl h
 · exact .inr ⟨g, cap, cur, h1, h2, (hg.block g (ltS h3) (hr g (by rw [h1]; rfl))).trans h3, h4⟩
theorem map_fr {w w' : World} {P : Nat → Prop} {M : Nat} {l : List (List UInt8)} (h : MetC w M l) (hg : FrP P w w') (hr : ¬ P M) : MetC w' M l := by
 have e := hg.block M h.lt hr
 obtain ⟨D, ⟨es, clock, a1, a2⟩, h2⟩ := h
 exact ⟨D, ⟨es, clock, e.trans a1, a2⟩, h2⟩
/-- a value under way: its box and its rows -/
structure LV (w : World) (vb lo : Nat) (k : Int) (ks : List (List UInt8)) (L : List IC) (kv iv : Value) : Prop where
 hd : w.heap[vb]? = some (.cells #[.int .i64 k, .string ⟨#[]⟩, kv, iv] 25 (0, 0))
 rk : w.ownsRow lo 9 1 kv ks.length (strC ks)
 ri : w.ownsRow lo 25 4 iv L.length (rowC L)
 ch : ∀ c ∈ L, KP w (fun b => lo ≤ b ∧ some b ≠ iv.ownBlock ∧ some b ≠ kv.ownBlock) c.y c.kp c.kc c.ip c.ic ∧ c.y.str.length ≤ maxLen
theorem LV.fr {w w' : World} {P : Nat → Prop} {vb lo : Nat} {k : Int} {ks : List (List UInt8)} {L : List IC} {kv iv : Value} (h : LV w vb lo k ks L kv iv) (hg : FrP P w w') (h1 : ¬ P vb) (h2 : ∀ b, lo ≤ b → ¬ P b) : LV w' vb lo k ks L kv iv :=
 ⟨(hg.block vb (ltS h.hd) h1).trans h.hd, row_fr h.rk hg fun b hb => h2 b (h.rk.lt b hb).1, row_fr h.ri hg fun b hb => h2 b (h.ri.lt b hb).1, fun c hc => ⟨(h.ch c hc).1.fr hg fun b hb => h2 b hb.1, (h.ch c hc).2⟩⟩
/-- the rows lie apart -/
theorem LV.apart {w : World} {lo n m : Nat} {kv iv : Value} {xs ys : List Value} (hk : w.ownsRow lo 9 1 kv n xs) (hi : w.ownsRow lo 25 4 iv m ys) : ∀ b, kv.ownBlock = some b → iv.ownBlock ≠ some b := fun b h1 h2 => by
 rcases hk.2 with ⟨e, _⟩ | ⟨g, cap, cur, e, _, h3, _⟩
 · rw [e] at h1; cases h1
 · rcases hi.2 with ⟨e', _⟩ | ⟨g', cap', cur', e', _, h3', _⟩
   · rw [e'] at h2; cases h2
   · rw [e] at h1
     rw [e'] at h2
     obtain rfl : g = b := Option.some.inj h1
     obtain rfl : g' = g := Option.some.inj h2
     rw [h3] at h3'
     simp at h3'
def valB (n : Nat) (b : Bool) (K : List KT) : Option (JV × List KT) := if b then none else valP n K
/-- what a value's reading leaves -/
structure VP (w : World) (R : Nat) (tw : Bool) (o : Option (JV × List KT)) (k : Int) (S : ByteArray) (p : Option Addr) (n c : Nat) (p' : Option Addr) (n' c' : Nat) (w' : World) : Prop where
 gb : w.grownBy w' (some R)
 good : ∀ v r, o = some (v, r) → RD w' R r false (tw || v.dup) ∧ jval v p c p' c' = .agg #[.int .i64 k, .string S, .slice p n c, .slice p' n' c'] ∧ KP w' (w.heap.size ≤ ·) v p c p' c' ∧ v.str.length ≤ maxLen
 bad : o = none → ∃ K' tw', RD w' R K' true tw'
def ValPost (w : World) (R : Nat) (tw : Bool) (o : Option (JV × List KT)) (e : Ending) (w' : World) : Prop :=
 ∃ k S p n c p' n' c', e = .returned (.agg #[.int .i64 k, .string S, .slice p n c, .slice p' n' c']) ∧ VP w R tw o k S p n c p' n' c' w'
/-- the contract of a value's reading, at a fuel -/
def ValC (n : Nat) : Prop := ∀ (w : World) (R : Nat) (K : List KT) (tw : Bool), RD w R K false tw → kw K ≤ 100000000 → 2 * K.length + 1 ≤ n → Calls Tryz.prog 112 #[.pointer (some ⟨R, 0, none⟩)] w (ValPost w R tw (valP n K))
theorem ValC.bad {n : Nat} (h : ValC n) (w : World) (R : Nat) (K : List KT) (b tw : Bool) (hr : RD w R K b tw) (hb : b = false → kw K ≤ 100000000 ∧ 2 * K.length + 1 ≤ n) : Calls Tryz.prog 112 #[.pointer (some ⟨R, 0, none⟩)] w (ValPost w R tw (valB n b K)) := by
 cases b with
 | false => exact h w R K tw hr (hb rfl).1 (hb rfl).2
 | true =>
  refine (value_bad hr (.inl rfl)).mono ?_
  rintro e w' ⟨rfl, hg, hr'⟩
  exact ⟨0, ⟨#[]⟩, none, 0, 0, none, 0, 0, rfl, ⟨hg, fun v r h => (by cases h), fun _ => ⟨_, _, hr'⟩⟩⟩
/-- where a list's reading stands -/
structure LG (o : Bool) (fx : List (Nat × Obj)) (w0 : World) (R vb M lo N : Nat) (w : World) (K : List KT) (tw : Bool) (ks : List (List UInt8)) (it : List JV) : Prop where
 fr : w0.grownBy w (some R)
 rd : RD w R K false tw
 fx : ∀ x ∈ fx, w.heap[x.1]? = some x.2
 v : ∃ L kv iv, LV w vb lo (if o then 6 else 5) (if o then ks else []) L kv iv ∧ L.map (·.y) = it
 met : o = true → MetC w M ks.reverse
 wt : wtL it + (if o then keysW ks else 0) + kw K ≤ N
 sz : lo ≤ w.heap.size
/-- where it stands when it fell -/
structure LB (fx : List (Nat × Obj)) (w0 : World) (R vb : Nat) (w : World) : Prop where
 fr : w0.grownBy w (some R)
 rd : ∃ K tw, RD w R K true tw
 fx : ∀ x ∈ fx, w.heap[x.1]? = some x.2
 v : ∃ k S p n c p' n' c', w.heap[vb]? = some (.cells #[.int .i64 k, .string S, .slice p n c, .slice p' n' c'] 25 (0, 0))
/-- how the blocks lie -/
structure LS (fx : List (Nat × Obj)) (w0 : World) (R vb M lo : Nat) : Prop where
 rlt : R < w0.heap.size
 vlt : w0.heap.size ≤ vb ∧ vb < lo
 mlt : (w0.heap.size ≤ M ∨ M = R) ∧ M < lo ∧ M ≠ vb
 flt : ∀ x ∈ fx, w0.heap.size ≤ x.1 ∧ x.1 < lo ∧ x.1 ≠ vb ∧ x.1 ≠ M
/-- what a closure of a list writes -/
def ClP (R vb M lo : Nat) (k : Nat) : Prop := k = R ∨ k = M ∨ k = vb ∨ lo ≤ k
theorem wp_append_own_at {P : Program} {w : World} {o : Oper} {a : Act} {K : Act → World → Prop} {Q : Exit → Act → World → Prop} (s x : Operand) (t : TypeId)
 (ho : o.op = .call { callee := .builtin .append, args := #[s, x], argTypes := #[t, t] })
 (base : Nat) (e : TypeId) (i : TypeInfo) (z : Value) (size bytes : Nat) (ht : P.underlying t = some (.slice e)) (hi : P.info? e = some i) (hz : i.zero = some z)
 (hsize : i.size = size) (hby : i.bytes = bytes) (hzs : z.cells.size = size) (hsz : 0 < size)
 (v : Value) (n : Nat) (xs : List Value) (hs : a.eval s = v) (hown : w.ownsRow base e size v n xs)
 (ad : Addr) (m c : Nat) (news : List Value) (hx : a.eval x = .slice (some ad) m c) (hl : news.length = m * size) (hnews : ∀ j u, news[j]? = some u → w.cell? (ad.add j) = some u) (h1 : ∀ u ∈ news, u.oneCell' = true)
 (h63 : n + m ≤ maxLen) (hbytes : (n + m) * bytes ≤ 140737488355328) (hbase : base ≤ w.heap.size)
 (h : ∀ v' w', w'.ownsRow base e size v' (n + m) (xs ++ news) → w.grownBy w' v.ownBlock → (v'.ownBlock = v.ownBlock ∨ v'.ownBlock = some w.heap.size) → K (a.put o.dst v') w') : o.wp P a w K Q := by
 obtain ⟨v', w', hr, h2, h3, _, h5⟩ := run_append_own_at (P := P) w base t o.type e i z size bytes ht hi hz hsize hby hzs hsz v n xs hown ad m c news hl hnews h1 h63 hbytes hbase
 unfold Oper.wp execOp
 simp only [ho, resolve, invoke, builtin, Sem.run_bind, Sem.run_pure, Result.andThen_ok, List.map_toArray, List.map_cons, List.map_nil, hs, hx, hr]
 exact h v' w' h2 h3 h5
end Go.Proofs.Jt
/- VM: A value under way: one item more. -/
namespace Go.Proofs.Jt
open Go.RowKit Go.Maps Go.Lib Go.Proofs.Utf Go.Proofs

theorem info9 : (Tryz.prog.info? 9).map (fun i => (i.zero, i.size, i.bytes)) = some (some (.string ⟨#[]⟩), 1, 16) := by kernel_rfl
theorem info45 : (Tryz.prog.info? 25).map (fun i => (i.zero, i.size, i.bytes)) = some (some (.agg #[.int .i64 0, .string ⟨#[]⟩, .slice none 0 0, .slice none 0 0]), 4, 72) := by kernel_rfl
theorem new_cells (w : World) (C : List Value) (t : TypeId) : ∀ (j : Nat) (u : Value), C[j]? = some u → (w.alloc (.cells C.toArray t)).cell? ((⟨w.heap.size, 0, none⟩ : Addr).add j) = some u := by
 intro j u h
 rw [add0]
 have e : (w.alloc (.cells C.toArray t)).cell? ⟨w.heap.size, j, none⟩ = C.toArray[j]? := World.cell?_alloc_mark w C.toArray t (0, 0) j
 rw [e]
 simpa using h
theorem cells2_set {w : World} {vb : Nat} {a b c d x y : Value} (h : w.heap[vb]? = some (.cells #[a, b, c, d] 25 (0, 0))) : ((w.setCell ⟨vb, 2, none⟩ x).setCell ⟨vb, 3, none⟩ y).heap[vb]? = some (.cells #[a, b, x, y] 25 (0, 0)) := by
 have h1 := heap_setCell_self h 2 x
 exact heap_setCell_self h1 3 y
theorem set2_fr (w : World) (vb : Nat) (x y : Value) : FrP (fun k => k = vb) w ((w.setCell ⟨vb, 2, none⟩ x).setCell ⟨vb, 3, none⟩ y) := FrP.trans (P := fun k => k = vb) (FrP.of (gb_set w vb 2 x) rfl) (FrP.of (gb_set _ vb 3 y) rfl)
/-- a block of a row is below what is there -/
theorem row_lt {w : World} {lo e size n : Nat} {v : Value} {xs : List Value} (h : w.ownsRow lo e size v n xs) {b : Nat} (hb : v.ownBlock = some b) : lo ≤ b ∧ b < w.heap.size := h.lt b hb
theorem LV.add {w w1 w5 w6 w61 w7 : World} {vb lo R : Nat} {k0 : Int} {ks : List (List UInt8)} {L : List IC} {kv iv kv2 iv2 : Value} {X : List UInt8} {c : IC}
 (h : LV w vb lo k0 ks L kv iv) (hRlo : R < lo) (hvb : vb < lo) (hRv : R ≠ vb) (g1 : w.grownBy w1 none)
 (hk2 : w5.ownsRow lo 9 1 kv2 (ks.length + 1) (strC ks ++ [.string ⟨X.toArray⟩])) (hgk : w1.grownBy w5 kv.ownBlock) (hat : kv2.ownBlock = kv.ownBlock ∨ kv2.ownBlock = some w1.heap.size)
 (g6 : w5.grownBy w6 (some R)) (g61 : w6.grownBy w61 none)
 (hi2 : w7.ownsRow lo 25 4 iv2 (L.length + 1) (rowC L ++ c.cells)) (hgi : w61.grownBy w7 iv.ownBlock) (hat2 : iv2.ownBlock = iv.ownBlock ∨ iv2.ownBlock = some w61.heap.size)
 (hc : KP w6 (w5.heap.size ≤ ·) c.y c.kp c.kc c.ip c.ic ∧ c.y.str.length ≤ maxLen) :
 LV ((w7.setCell ⟨vb, 2, none⟩ kv2).setCell ⟨vb, 3, none⟩ iv2) vb lo k0 (ks ++ [X]) (L ++ [c]) kv2 iv2 := by
 have s1 := g1.size
 have s5 := hgk.size
 have s6 := g6.size
 have s61 := g61.size
 have hvl := (ltS h.hd)
 have hkl : ∀ b, kv.ownBlock = some b → lo ≤ b ∧ b < w.heap.size := fun b hb => row_lt h.rk hb
 have hil : ∀ b, iv.ownBlock = some b → lo ≤ b ∧ b < w.heap.size := fun b hb => row_lt h.ri hb
 have hk2l : ∀ b, kv2.ownBlock = some b → lo ≤ b ∧ b < w5.heap.size := fun b hb => row_lt hk2 hb
 -- blocks that stay
 have stay : ∀ b, b < w.heap.size → b ≠ R → some b ≠ kv.ownBlock → some b ≠ iv.ownBlock → w7.heap[b]? = w.heap[b]? := fun b hb hR hk hi =>
  (hgi.block b (by omega) hi).trans ((g61.block b (by omega) (by simp)).trans ((g6.block b (by omega) (by intro e; cases e; exact hR rfl)).trans ((hgk.block b (by omega) hk).trans (g1.block b hb (by simp)))))
 have stay2 : ∀ b, b < w5.heap.size → b ≠ R → some b ≠ iv.ownBlock → w7.heap[b]? = w5.heap[b]? := fun b hb hR hi =>
  (hgi.block b (by omega) hi).trans ((g61.block b (by omega) (by simp)).trans (g6.block b hb (by intro e; cases e; exact hR rfl)))
 have stay3 : ∀ b, b < w6.heap.size → some b ≠ iv.ownBlock → w7.heap[b]? = w6.heap[b]? := fun b hb hi =>
  (hgi.block b (by omega) hi).trans (g61.block b hb (by simp))
 have s7 := hgi.size
 have F9 := set2_fr w7 vb kv2 iv2
 have hap : ∀ b, kv2.ownBlock = some b → some b ≠ iv.ownBlock := fun b hb e => by
  rcases hat with e2 | e2
  · exact LV.apart h.rk h.ri b (by rw [← e2]; exact hb) e.symm
  · rw [hb] at e2
    have e3 := Option.some.inj e2
    have := (hil b e.symm).2
    omega
 refine ⟨cells2_set ((stay vb hvl (Ne.symm hRv) (fun e => by have := (hkl vb e.symm).1; omega) (fun e => by have := (hil vb e.symm).1; omega)).trans h.hd), ?_, ?_, fun d hd => ?_⟩
 · rw [strC_snoc, List.length_append]
   have : w7.ownsRow lo 9 1 kv2 (ks.length + 1) (strC ks ++ [.string ⟨X.toArray⟩]) := by
    refine ⟨hk2.1, ?_⟩
    rcases hk2.2 with h | ⟨g, cap, cur, h1, h2, h3, h4⟩
    · exact .inl h
    · have hb : kv2.ownBlock = some g := by rw [h1]; rfl
      exact .inr ⟨g, cap, cur, h1, h2, (stay2 g (hk2l g hb).2 (by omega) (hap g hb)).trans h3, h4⟩
   exact row_fr this F9 fun b hb e => by have := (hk2l b hb).1; omega
 · rw [rowC_snoc, List.length_append]
   exact row_fr hi2 F9 fun b hb e => by have := (row_lt hi2 hb).1; omega
 · have new9 : ∀ P' : Nat → Prop, ∀ d : IC, KP w7 P' d.y d.kp d.kc d.ip d.ic → (∀ b, P' b → lo ≤ b) → KP ((w7.setCell ⟨vb, 2, none⟩ kv2).setCell ⟨vb, 3, none⟩ iv2) P' d.y d.kp d.kc d.ip d.ic := fun P' d hd hp => hd.fr F9 fun b hb e => by have := hp b hb; omega
   have hi2b : ∀ b, b < w61.heap.size → some b ≠ iv.ownBlock → some b ≠ iv2.ownBlock := fun b hb hi e => by
    rcases hat2 with e2 | e2
    · exact hi (e.trans e2)
    · rw [e2] at e; have := Option.some.inj e; omega
   rcases List.mem_append.1 hd with hd | hd
   · obtain ⟨h1, h2⟩ := h.ch d hd
     refine ⟨new9 _ d (h1.keep (by omega) (fun b hb hl => stay b hl (by omega) hb.2.2 hb.2.1) (P' := fun b => lo ≤ b ∧ some b ≠ iv2.ownBlock ∧ some b ≠ kv2.ownBlock) fun b hb hl => ⟨hb.1, hi2b b (by omega) hb.2.1, fun e => ?_⟩) fun b hb => hb.1, h2⟩
     rcases hat with e2 | e2
     · exact hb.2.2 (e.trans e2)
     · rw [e2] at e; have := Option.some.inj e; omega
   · obtain rfl := List.mem_singleton.1 hd
     have hiw : ∀ b, w5.heap.size ≤ b → some b ≠ iv.ownBlock := fun b hb e => by have := (hil b e.symm).2; omega
     have hlo5 : lo ≤ w5.heap.size := by
      rcases hk2.2 with ⟨_, e⟩ | ⟨g, cap, cur, h1, h2, h3, _⟩
      · omega
      · have := (ltS h3); omega
     exact ⟨new9 _ d (hc.1.keep (by omega) (fun b hb hl => stay3 b hl (hiw b hb)) (P' := fun b => lo ≤ b ∧ some b ≠ iv2.ownBlock ∧ some b ≠ kv2.ownBlock) fun b hb hl => ⟨Nat.le_trans hlo5 hb, hi2b b (by omega) (hiw b hb), fun e => by have := (hk2l b e.symm).2; omega⟩) fun b hb => hb.1, hc.2⟩
theorem gb_cl {fx : List (Nat × Obj)} {w0 w w9 : World} {R vb M lo : Nat} (hs : LS fx w0 R vb M lo) (h : w0.grownBy w (some R)) (hf : FrP (ClP R vb M lo) w w9) : w0.grownBy w9 (some R) :=
 ⟨hf.os.trans h.os, hf.tape.trans h.tape, hf.output.trans h.output, Nat.le_trans h.size hf.size, fun k hk hne => by
  have h1 := hs.vlt
  have h2 := hs.mlt
  have hkR : k ≠ R := fun e => hne (by rw [e])
  exact (hf.block k (Nat.lt_of_lt_of_le hk h.size) (by unfold ClP; omega)).trans (h.block k hk hne)⟩
theorem fx_cl {fx : List (Nat × Obj)} {w0 w w9 : World} {R vb M lo : Nat} (hs : LS fx w0 R vb M lo) (h : ∀ x ∈ fx, w.heap[x.1]? = some x.2) (hf : FrP (ClP R vb M lo) w w9) : ∀ x ∈ fx, w9.heap[x.1]? = some x.2 := fun x hx => by
 have h1 := hs.flt x hx
 have h2 := hs.rlt
 exact (hf.block x.1 (Array.getElem?_eq_some_iff.1 (h x hx)).1 (by unfold ClP; omega)).trans (h x hx)
theorem row_form {w : World} {lo e size n : Nat} {v : Value} {xs : List Value} (h : w.ownsRow lo e size v n xs) : ∃ p c, v = .slice p n c := by
 rcases h.2 with ⟨rfl, rfl⟩ | ⟨g, cap, cur, rfl, _⟩
 · exact ⟨_, _, rfl⟩
 · exact ⟨_, _, rfl⟩
end Go.Proofs.Jt
/- VN: A value under way: one item more in an array. -/
namespace Go.Proofs.Jt
open Go.RowKit Go.Maps Go.Lib Go.Proofs.Utf Go.Proofs

theorem setCells4 (w : World) (g o : Nat) (a b c d : Value) : w.setCells g o [a, b, c, d] = (((w.setCell ⟨g, o, none⟩ a).setCell ⟨g, o + 1, none⟩ b).setCell ⟨g, o + 2, none⟩ c).setCell ⟨g, o + 3, none⟩ d := rfl
theorem row_elem {w : World} {lo g cap n : Nat} {xs : List Value} {z0 z1 z2 z3 : Value} (v0 v1 v2 v3 : Value) (h : w.ownsRow lo 25 4 (.slice (some ⟨g, 0, none⟩) (n + 1) cap) (n + 1) (xs ++ [z0, z1, z2, z3])) (hx : xs.length = n * 4) :
 (w.setCells g (n * 4) [v0, v1, v2, v3]).ownsRow lo 25 4 (.slice (some ⟨g, 0, none⟩) (n + 1) cap) (n + 1) (xs ++ [v0, v1, v2, v3]) ∧ w.grownBy (w.setCells g (n * 4) [v0, v1, v2, v3]) (some g) ∧ w.there g (n * 4) 4 := by
 obtain ⟨h1, g1⟩ := h.stored (n * 4) v0
 obtain ⟨h2, g2⟩ := h1.stored (n * 4 + 1) v1
 obtain ⟨h3, g3⟩ := h2.stored (n * 4 + 2) v2
 obtain ⟨h4, g4⟩ := h3.stored (n * 4 + 3) v3
 refine ⟨?_, ?_, fun j hj => ?_⟩
 · rw [setCells4]
   have e : ((((xs ++ [z0, z1, z2, z3]).set (n * 4) v0).set (n * 4 + 1) v1).set (n * 4 + 2) v2).set (n * 4 + 3) v3 = xs ++ [v0, v1, v2, v3] := by
    rw [← hx]
    simp
   rw [← e]
   exact h4
 · rw [setCells4]
   exact g1.trans (g2.trans (g3.trans g4))
 · have hl := h.1
   rw [h.cellAt (n * 4 + j) (by omega), List.getElem?_eq_getElem (by omega)]
   exact ⟨rfl, h.frozenAt _⟩
theorem LV.addA {w w5 w6 w61 w7 W9 : World} {vb lo R : Nat} {k0 : Int} {ks : List (List UInt8)} {L : List IC} {kv iv iv2 : Value} {c : IC}
 (h : LV w vb lo k0 ks L kv iv) (hRlo : R < lo) (hvb : vb < lo) (hlo : lo ≤ w.heap.size) (g5 : w.grownBy w5 none)
 (g6 : w5.grownBy w6 (some R)) (g61 : w6.grownBy w61 none) (hgi : w61.grownBy w7 iv.ownBlock) (hat2 : iv2.ownBlock = iv.ownBlock ∨ iv2.ownBlock = some w61.heap.size)
 (hd9 : W9.heap[vb]? = some (.cells #[.int .i64 k0, .string ⟨#[]⟩, kv, iv2] 25 (0, 0))) (hr9 : W9.ownsRow lo 25 4 iv2 (L.length + 1) (rowC L ++ c.cells)) (F9 : FrP (fun k => k = vb ∨ iv2.ownBlock = some k) w7 W9)
 (hc : KP w6 (w5.heap.size ≤ ·) c.y c.kp c.kc c.ip c.ic ∧ c.y.str.length ≤ maxLen) :
 LV W9 vb lo k0 ks (L ++ [c]) kv iv2 := by
 have s5 := g5.size
 have s6 := g6.size
 have s61 := g61.size
 have s7 := hgi.size
 have s9 := F9.size
 have hkl : ∀ b, kv.ownBlock = some b → lo ≤ b ∧ b < w.heap.size := fun b hb => row_lt h.rk hb
 have hil : ∀ b, iv.ownBlock = some b → lo ≤ b ∧ b < w.heap.size := fun b hb => row_lt h.ri hb
 have hi2b : ∀ b, b < w61.heap.size → some b ≠ iv.ownBlock → some b ≠ iv2.ownBlock := fun b hb hi e => by
  rcases hat2 with e2 | e2
  · exact hi (e.trans e2)
  · rw [e2] at e; have := Option.some.inj e; omega
 have stay3 : ∀ b, b < w6.heap.size → some b ≠ iv.ownBlock → b ≠ vb → W9.heap[b]? = w6.heap[b]? := fun b hb hi hv =>
  (F9.block b (by omega) (fun e => by
    rcases e with e | e
    · exact hv e
    · exact hi2b b (by omega) hi e.symm)).trans ((hgi.block b (by omega) hi).trans (g61.block b hb (by simp)))
 have stay : ∀ b, b < w.heap.size → lo ≤ b → some b ≠ iv.ownBlock → W9.heap[b]? = w.heap[b]? := fun b hb hlb hi =>
  (stay3 b (by omega) hi (by omega)).trans ((g6.block b (by omega) (by intro e; cases e; omega)).trans (g5.block b hb (by simp)))
 refine ⟨hd9, ?_, by rw [rowC_snoc, List.length_append]; exact hr9, fun d hd => ?_⟩
 · refine ⟨h.rk.1, ?_⟩
   rcases h.rk.2 with e | ⟨g, cap, cur, h1, h2, h3, h4⟩
   · exact .inl e
   · have hb : kv.ownBlock = some g := by rw [h1]; rfl
     exact .inr ⟨g, cap, cur, h1, h2, (stay g (hkl g hb).2 h2 (fun e => LV.apart h.rk h.ri g hb e.symm)).trans h3, h4⟩
 · rcases List.mem_append.1 hd with hd | hd
   · obtain ⟨h1, h2⟩ := h.ch d hd
     exact ⟨h1.keep (by omega) (fun b hb hl => stay b hl hb.1 hb.2.1) fun b hb hl => ⟨hb.1, hi2b b (by omega) hb.2.1, hb.2.2⟩, h2⟩
   · obtain rfl := List.mem_singleton.1 hd
     have hiw : ∀ b, w5.heap.size ≤ b → some b ≠ iv.ownBlock := fun b hb e => by have := (hil b e.symm).2; omega
     exact ⟨hc.1.keep (by omega) (fun b hb hl => stay3 b hl (hiw b hb) (by omega)) fun b hb hl => ⟨by omega, hi2b b (by omega) (hiw b hb), fun e => by have := (hkl b e.symm).2; omega⟩, hc.2⟩
end Go.Proofs.Jt
