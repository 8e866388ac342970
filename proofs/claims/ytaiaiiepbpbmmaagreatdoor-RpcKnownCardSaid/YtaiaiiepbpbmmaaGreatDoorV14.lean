/- The reader of JSON: what it is in memory; is, take. -/
import Derived.Test.YtaiaiiepbpbmmaaGreatDoorV13
namespace Go.Proofs.Jt
open Go.RowKit Go.Maps Go.Lib Go.Proofs.Utf Go.Proofs

theorem gb_set (w : World) (b o : Nat) (v : Value) : w.grownBy (w.setCell ⟨b, o, none⟩ v) (some b) :=
  ⟨rfl, rfl, rfl, (by simp), fun k _ hk => Below.heap_setCell _ _ _ k (fun e => hk (by rw [e]))⟩
/-- words in memory, from a place on -/
def TokP (w : World) (R : Nat) (p : Option Addr) (K : List KT) : Prop := ∀ (i k : Nat) (x : List UInt8), K[i]? = some (k, x) → ∃ b o, p = some ⟨b, o, none⟩ ∧ b < R ∧ w.cell? ⟨b, o + i * 4, none⟩ = some (.int .i64 k) ∧ w.cell? ⟨b, o + i * 4 + 1, none⟩ = some (.string ⟨x.toArray⟩) ∧ x.length ≤ 16777216 ∧ k ≤ 4 ∧ (k = 2 → x = wNull ∨ x = wFalse ∨ x = wTrue) ∧ ∃ u v : Int, w.cell? ⟨b, o + i * 4 + 2, none⟩ = some (.int .i64 u) ∧ w.cell? ⟨b, o + i * 4 + 3, none⟩ = some (.int .i64 v)
theorem cell_same {w w' : World} {b o : Nat} {x : Value} (h : w.cell? ⟨b, o, none⟩ = some x) (he : w'.heap[b]? = w.heap[b]?) : w'.cell? ⟨b, o, none⟩ = some x := by
  unfold World.cell? at h ⊢
  simp only [he]
  exact h
theorem TokP.kept {w w' : World} {R : Nat} {p : Option Addr} {K : List KT} (h : TokP w R p K) (he : ∀ b, b < R → b < w.heap.size → w'.heap[b]? = w.heap[b]?) : TokP w' R p K := fun i k x hk => by
  obtain ⟨b, o, h1, h2, h3, h4, h5, h6, h7, u, v, h8, h9⟩ := h i k x hk
  have e := he b h2 (cell_blk h3)
  exact ⟨b, o, h1, h2, cell_same h3 e, cell_same h4 e, h5, h6, h7, u, v, cell_same h8 e, cell_same h9 e⟩
theorem TokP.tail {w : World} {R b o : Nat} {y : KT} {K : List KT} (h : TokP w R (some ⟨b, o, none⟩) (y :: K)) : TokP w R (some ⟨b, o + 4, none⟩) K := fun i k x hk => by
  obtain ⟨b', o', h1, h2, h3, h4, h5⟩ := h (i + 1) k x hk
  obtain ⟨rfl, rfl⟩ : b = b' ∧ o = o' := by injection h1 with h1; injection h1 with h1 h2; exact ⟨h1, h2⟩
  have e : o + (i + 1) * 4 = o + 4 + i * 4 := by omega
  rw [e] at h3 h4 h5
  exact ⟨b, o + 4, rfl, h2, h3, h4, h5⟩
/-- a reader: what is left, whether it fell, whether a key came twice -/
def RD (w : World) (R : Nat) (K : List KT) (bad tw : Bool) : Prop := ∃ p c, w.heap[R]? = some (.cells #[.slice p K.length c, .bool bad, .bool tw] 170 (0, 0)) ∧ K.length ≤ c ∧ c ≤ maxLen ∧ TokP w R p K
theorem RD.lt {w : World} {R : Nat} {K : List KT} {bad tw : Bool} (h : RD w R K bad tw) : R < w.heap.size := by
  obtain ⟨p, c, h1, _⟩ := h
  exact (Array.getElem?_eq_some_iff.1 h1).1
theorem RD.same {w w' : World} {R : Nat} {K : List KT} {bad tw : Bool} (h : RD w R K bad tw) (he : ∀ b, b ≤ R → b < w.heap.size → w'.heap[b]? = w.heap[b]?) : RD w' R K bad tw := by
  have hl := h.lt
  obtain ⟨p, c, h1, h2, h3, h4⟩ := h
  exact ⟨p, c, (he R (Nat.le_refl _) hl).trans h1, h2, h3, h4.kept fun b hb hs => he b (by omega) hs⟩
theorem RD.kept {w w' : World} {R : Nat} {K : List KT} {bad tw : Bool} (h : RD w R K bad tw) {row : Nat} (hg : w.grownBy w' (some row)) (hr : R < row) : RD w' R K bad tw :=
  h.same fun b hb hs => hg.block b hs (by intro e; cases e; omega)
theorem RD.below {w w' : World} {R : Nat} {K : List KT} {bad tw : Bool} (h : RD w R K bad tw) (hb : Below w.heap.size w w') : RD w' R K bad tw := h.same fun b _ hs => hb.block b hs
theorem cells3 {w : World} {R : Nat} {a b c : Value} {t : TypeId} (h : w.heap[R]? = some (.cells #[a, b, c] t (0, 0))) : w.cell? ⟨R, 0, none⟩ = some a ∧ w.cell? ⟨R, 1, none⟩ = some b ∧ w.cell? ⟨R, 2, none⟩ = some c ∧ ∀ o, w.frozen? ⟨R, o, none⟩ = false := by
  refine ⟨?_, ?_, ?_, fun o => ?_⟩
  · simp [World.cell?, h]
  · simp [World.cell?, h]
  · simp [World.cell?, h]
  · simp [World.frozen?, h]
theorem heap_setCell_self {w : World} {R : Nat} {cs : Array Value} {t : TypeId} {f : Nat × Nat} (h : w.heap[R]? = some (.cells cs t f)) (o : Nat) (v : Value) : (w.setCell ⟨R, o, none⟩ v).heap[R]? = some (.cells (cs.setIfInBounds o v) t f) := by
  obtain ⟨hlt, hk⟩ := Array.getElem?_eq_some_iff.1 h
  show (w.heap.modify R _)[R]? = _
  rw [Array.getElem?_eq_getElem (by rw [Array.size_modify]; exact hlt), Array.getElem_modify_self, hk]
  rfl
theorem set_other {w : World} {R k o : Nat} {v : Value} (h : k ≠ R) : (w.setCell ⟨R, o, none⟩ v).heap[k]? = w.heap[k]? := Below.heap_setCell _ _ _ k h
/-- the reader goes on by one word -/
theorem RD.step {w : World} {R b o c : Nat} {y : KT} {K : List KT} {bad tw : Bool} (h1 : w.heap[R]? = some (.cells #[.slice (some ⟨b, o, none⟩) (K.length + 1) c, .bool bad, .bool tw] 170 (0, 0))) (h2 : K.length + 1 ≤ c) (h3 : c ≤ maxLen) (h4 : TokP w R (some ⟨b, o, none⟩) (y :: K)) :
    RD (w.setCell ⟨R, 0, none⟩ (.slice (some ⟨b, o + 4, none⟩) K.length (c - 1))) R K bad tw :=
  ⟨some ⟨b, o + 4, none⟩, c - 1, heap_setCell_self h1 0 _, by omega, by omega, h4.tail.kept fun k hk _ => set_other (by omega)⟩
theorem RD.last {w : World} {R c : Nat} {p : Option Addr} {y : KT} {K : List KT} {bad tw : Bool} (h1 : w.heap[R]? = some (.cells #[.slice p (K.length + 1) c, .bool bad, .bool tw] 170 (0, 0))) (h2 : K.length + 1 ≤ c) (_h4 : TokP w R p (y :: K)) (hc : c = 1) :
    RD (w.setCell ⟨R, 0, none⟩ (.slice p 0 0)) R K bad tw := by
  cases K with
  | nil => exact ⟨p, 0, heap_setCell_self h1 0 _, Nat.le_refl _, Nat.zero_le _, fun i k x hk => by cases hk⟩
  | cons z K => simp at h2; omega
theorem RD.fall {w : World} {R : Nat} {K : List KT} {bad tw : Bool} (h : RD w R K bad tw) : RD (w.setCell ⟨R, 1, none⟩ (.bool true)) R K true tw := by
  obtain ⟨p, c, h1, h2, h3, h4⟩ := h
  exact ⟨p, c, heap_setCell_self h1 1 _, h2, h3, h4.kept fun k hk _ => set_other (by omega)⟩
theorem RD.twice {w : World} {R : Nat} {K : List KT} {bad tw : Bool} (h : RD w R K bad tw) (tw' : Bool) : RD (w.setCell ⟨R, 2, none⟩ (.bool tw')) R K bad tw' := by
  obtain ⟨p, c, h1, h2, h3, h4⟩ := h
  exact ⟨p, c, heap_setCell_self h1 2 _, h2, h3, h4.kept fun k hk _ => set_other (by omega)⟩
theorem str_ways {x : List UInt8} {X M : ByteArray} (hX : (⟨x.toArray⟩ : ByteArray) = X) : (x = M.data.toList ∧ X = M) ∨ (x ≠ M.data.toList ∧ ¬ X.toList = M.toList ∧ (X.toList == M.toList) = false ∧ (X.toList != M.toList) = true) := by
  by_cases e : x = M.data.toList
  · refine .inl ⟨e, ?_⟩
    rw [← hX, e]
  · have hne : X ≠ M := by rintro rfl; exact e (by rw [← hX])
    exact .inr ⟨e, str_ne hne⟩
set_option maxRecDepth 100000 in
set_option maxHeartbeats 2000000 in
theorem is_any {w : World} {R : Nat} {K : List KT} {bad tw : Bool} (h : RD w R K bad tw) (m : ByteArray) :
    Calls Tryz.prog 163 #[.pointer (some ⟨R, 0, none⟩), .string m] w fun e w' => e = .returned (.bool (decide (K.head? = some (1, m.data.toList)))) ∧ w.grownBy w' (some R) ∧ RD w' R (if K.head? = some (1, m.data.toList) then K.tail else K) bad tw ∧ w'.heap.size = w.heap.size := by
  have h0 := h
  obtain ⟨p, c, h1, h2, h3, h4⟩ := h
  obtain ⟨c0, c1, c2, cf⟩ := cells3 h1
  unfold maxLen at h3
  cases K with
  | nil =>
    rw [if_neg (by simp)]
    have H0 := Lib.hid h0
    simp only [List.length_nil] at c0
    have cf0 := cf 0
    clear h0 h1 h4 h2 h3 cf
    go_enter Tryz.func163, Tryz.ntmps163
    go_wp2
    go_ret
    exact ⟨rfl, World.grownBy.refl _ _, H0.out, rfl⟩
  | cons y K =>
    obtain ⟨k, x⟩ := y
    obtain ⟨b, o, rfl, hb, k0, k1, hx, hk4, -⟩ := h4 0 k x rfl
    rw [Nat.zero_mul, Nat.add_zero] at k0 k1
    obtain ⟨X, hX⟩ : ∃ X : ByteArray, (⟨x.toArray⟩ : ByteArray) = X := ⟨_, rfl⟩
    rw [hX] at k1
    simp only [List.length_cons] at c0 h2
    have cf0 := cf 0
    have H0 := Lib.hid h0
    have HS := Lib.hid (RD.step h1 (by simpa using h2) (by unfold maxLen; exact h3) h4)
    have HL := Lib.hid (RD.last h1 (by simpa using h2) h4)
    have hw := str_ways (M := m) hX
    clear h0 h1 h4 hX
    by_cases hk1 : k = 1
    · subst hk1
      rcases hw with ⟨hxm, hXM⟩ | ⟨hne, n1, n2, n3⟩
      · have hd : ((1, x) :: K : List KT).head? = some (1, m.data.toList) := by rw [hxm]; rfl
        rw [if_pos hd, decide_eq_true hd]
        subst hXM
        have hs := str_same X
        clear hd hxm
        by_cases hc1 : c = 1
        · have HL1 := Lib.hid (HL.out hc1)
          subst hc1
          go_enter Tryz.func163, Tryz.ntmps163
          go_wp2
          go_ret
          exact ⟨rfl, gb_set _ _ _ _, HL1.out, by simp⟩
        · go_enter Tryz.func163, Tryz.ntmps163
          go_wp2
          go_ret
          exact ⟨rfl, gb_set _ _ _ _, HS.out, by simp⟩
      · have hd : ¬ ((1, x) :: K : List KT).head? = some (1, m.data.toList) := by simpa using hne
        rw [if_neg hd, decide_eq_false hd]
        clear hd
        go_enter Tryz.func163, Tryz.ntmps163
        go_wp2
        go_ret
        exact ⟨rfl, World.grownBy.refl _ _, H0.out, rfl⟩
    · have hd : ¬ ((k, x) :: K : List KT).head? = some (1, m.data.toList) := by simp [hk1]
      rw [if_neg hd, decide_eq_false hd]
      have n1 : ((k : Int) != 1) = true := by simp; omega
      clear hd hw
      go_enter Tryz.func163, Tryz.ntmps163
      go_wp2
      go_ret
      exact ⟨rfl, World.grownBy.refl _ _, H0.out, rfl⟩
set_option maxRecDepth 100000 in
set_option maxHeartbeats 2000000 in
theorem take_any {w : World} {R : Nat} {k : Nat} {x : List UInt8} {K : List KT} {tw : Bool} (h : RD w R ((k, x) :: K) false tw) :
    Calls Tryz.prog 166 #[.pointer (some ⟨R, 0, none⟩), .int .i64 k] w fun e w' => e = .returned (.string ⟨x.toArray⟩) ∧ w.grownBy w' (some R) ∧ RD w' R K false tw ∧ w'.heap.size = w.heap.size := by
  obtain ⟨p, c, h1, h2, h3, h4⟩ := h
  obtain ⟨c0, c1, c2, cf⟩ := cells3 h1
  unfold maxLen at h3
  obtain ⟨b, o, rfl, hb, k0, k1, hx, hk4, -⟩ := h4 0 k x rfl
  rw [Nat.zero_mul, Nat.add_zero] at k0 k1
  obtain ⟨X, hX⟩ : ∃ X : ByteArray, (⟨x.toArray⟩ : ByteArray) = X := ⟨_, rfl⟩
  rw [hX] at k1 ⊢
  simp only [List.length_cons] at c0 h2
  have cf0 := cf 0
  have HS := Lib.hid (RD.step h1 (by simpa using h2) (by unfold maxLen; exact h3) h4)
  have HL := Lib.hid (RD.last h1 (by simpa using h2) h4)
  clear h1 h4 hX
  by_cases hc1 : c = 1
  · have HL1 := Lib.hid (HL.out hc1)
    subst hc1
    go_enter Tryz.func166, Tryz.ntmps166
    go_wp2
    go_ret
    exact ⟨rfl, gb_set _ _ _ _, HL1.out, by simp⟩
  · go_enter Tryz.func166, Tryz.ntmps166
    go_wp2
    go_ret
    exact ⟨rfl, gb_set _ _ _ _, HS.out, by simp⟩
set_option maxRecDepth 100000 in
set_option maxHeartbeats 2000000 in
theorem take_bad {w : World} {R : Nat} {k : Nat} {K : List KT} {bad tw : Bool} (h : RD w R K bad tw) (hk : bad = true ∨ ∀ x, K.head? ≠ some (k, x)) :
    Calls Tryz.prog 166 #[.pointer (some ⟨R, 0, none⟩), .int .i64 k] w fun e w' => e = .returned (.string ⟨#[]⟩) ∧ w.grownBy w' (some R) ∧ RD w' R K true tw ∧ w'.heap.size = w.heap.size := by
  have HF := Lib.hid h.fall
  obtain ⟨p, c, h1, h2, h3, h4⟩ := h
  obtain ⟨c0, c1, c2, cf⟩ := cells3 h1
  unfold maxLen at h3
  have cf0 := cf 1
  cases bad with
  | true =>
    clear h1 h4 hk
    go_enter Tryz.func166, Tryz.ntmps166
    go_wp2
    go_ret
    exact ⟨rfl, gb_set _ _ _ _, HF.out, by simp⟩
  | false =>
    cases K with
    | nil =>
      simp only [List.length_nil] at c0
      clear h1 h4 hk
      go_enter Tryz.func166, Tryz.ntmps166
      go_wp2
      go_ret
      exact ⟨rfl, gb_set _ _ _ _, HF.out, by simp⟩
    | cons y K =>
      obtain ⟨j, x⟩ := y
      obtain ⟨b, o, rfl, hb, k0, k1, hx, hk4, -⟩ := h4 0 j x rfl
      rw [Nat.zero_mul, Nat.add_zero] at k0 k1
      simp only [List.length_cons] at c0 h2
      have hjk : j ≠ k := by
        rintro rfl
        rcases hk with hk | hk
        · cases hk
        · exact hk x rfl
      have n1 : ((j : Int) != (k : Int)) = true := by simp; omega
      clear h1 h4 hk
      go_enter Tryz.func166, Tryz.ntmps166
      go_wp2
      go_ret
      exact ⟨rfl, gb_set _ _ _ _, HF.out, by simp⟩
/-- a value's box -/
def JBox (w : World) (z : Nat) : Prop := ∃ a b c d, w.heap[z]? = some (.cells #[a, b, c, d] 25 (0, 0))
theorem JBox.same {w w' : World} {z : Nat} (h : JBox w z) (he : w'.heap[z]? = w.heap[z]?) : JBox w' z := by
  obtain ⟨a, b, c, d, h⟩ := h
  exact ⟨a, b, c, d, he.trans h⟩
theorem JBox.lt {w : World} {z : Nat} (h : JBox w z) : z < w.heap.size := by
  obtain ⟨a, b, c, d, h⟩ := h
  exact (Array.getElem?_eq_some_iff.1 h).1
theorem heap_setRow_self {w : World} {R : Nat} {cs ds : Array Value} {t : TypeId} {f : Nat × Nat} (h : w.heap[R]? = some (.cells cs t f)) : (w.setRow R ds).heap[R]? = some (.cells ds t f) := by
  obtain ⟨hlt, hk⟩ := Array.getElem?_eq_some_iff.1 h
  show (w.heap.modify R _)[R]? = _
  rw [Array.getElem?_eq_getElem (by rw [Array.size_modify]; exact hlt), Array.getElem_modify_self, hk]
theorem gb_setRow (w : World) (R : Nat) (ds : Array Value) : w.grownBy (w.setRow R ds) (some R) :=
  ⟨rfl, rfl, rfl, by show w.heap.size ≤ (w.heap.modify R _).size; rw [Array.size_modify]; exact Nat.le_refl _, fun k hk hne => by
    show (w.heap.modify R _)[k]? = _
    rw [Array.getElem?_modify, if_neg (fun e => hne (by rw [e]))]⟩
theorem store_val {ops : Array Oper} {rest : List Oper} {op : Oper} {a : Act} {w : World} {Q : Exit → Act → World → Prop} (hgd : op.guard = none) (x y : Operand) (ho : op.op = .store 25 x y) (z : Nat) (hx : a.eval x = .pointer (some ⟨z, 0, none⟩))
    (v0 v1 v2 v3 : Value) (hy : a.eval y = .agg #[v0, v1, v2, v3]) (h1 : (v0.oneCell' && v1.oneCell' && v2.oneCell' && v3.oneCell') = true) (hz : JBox w z)
    (h : ∀ W, W.heap[z]? = some (.cells #[v0, v1, v2, v3] 25 (0, 0)) → w.grownBy W (some z) → W.heap.size = w.heap.size → wpList Tryz.prog ops Q rest (a.put op.dst undef) W) : wpList Tryz.prog ops Q (op :: rest) a w := by
  obtain ⟨a0, a1, a2, a3, hz⟩ := hz
  refine wpList_store_row hgd 25 x y ho z #[v0, v1, v2, v3] hx hy 25 #[a0, a1, a2, a3] hz (by kernel_rfl) rfl (by simpa [Bool.and_assoc] using h1) ?_
  exact h _ (heap_setRow_self hz) (gb_setRow _ _ _) (by show (w.heap.modify z _).size = _; rw [Array.size_modify])
theorem JBox.alloc (w : World) (a b c d : Value) : JBox (w.alloc (.cells #[a, b, c, d] 25)) w.heap.size := ⟨a, b, c, d, World.alloc_heap_new w _⟩
theorem ret_val {fn : Func} {p : Tmp} (h : fn.results = #[.cell p 25]) {tmps : Array Value} {w : World} {g : Nat} (hp : tmps.getD p undef = .pointer (some ⟨g, 0, none⟩)) {v0 v1 v2 v3 : Value} (hg : w.heap[g]? = some (.cells #[v0, v1, v2, v3] 25 (0, 0))) :
    (results fn tmps).run Tryz.prog w = .ok (.agg #[v0, v1, v2, v3]) w := results_cell_row h tmps w g 25 _ _ _ hp hg Tryz.underlying25 rfl (by kernel_rfl)
theorem gb_below {w w' : World} {row : Option Nat} (h : Below w.heap.size w w') : w.grownBy w' row := ⟨h.os, h.tape, h.output, h.size, fun k hk _ => h.block k hk⟩
set_option maxRecDepth 100000 in
set_option maxHeartbeats 2000000 in
/-- a reader that has fell reads nothing more; so one that has come to its end -/
theorem value_bad {w : World} {R : Nat} {K : List KT} {bad tw : Bool} (h : RD w R K bad tw) (hk : bad = true ∨ K = []) :
    Calls Tryz.prog 112 #[.pointer (some ⟨R, 0, none⟩)] w fun e w' => e = .returned (.agg #[.int .i64 0, .string ⟨#[]⟩, .slice none 0 0, .slice none 0 0]) ∧ w.grownBy w' (some R) ∧ RD w' R K true tw := by
  have hlt := h.lt
  obtain ⟨W, hW⟩ : ∃ W, w.alloc (.cells #[.int .i64 0, .string ⟨#[]⟩, .slice none 0 0, .slice none 0 0] 25) = W := ⟨_, rfl⟩
  have bW : Below w.heap.size w W := by rw [← hW]; exact (Below.refl _ _).alloc (Nat.le_refl _) _
  have h' := h.below bW
  have hz0 : JBox W w.heap.size := by rw [← hW]; exact JBox.alloc _ _ _ _ _
  have HB := Lib.hid bW
  have HF := Lib.hid h'.fall
  obtain ⟨p, c, h1, h2, h3, h4⟩ := h'
  obtain ⟨c0, c1, c2, cf⟩ := cells3 h1
  unfold maxLen at h3
  have cf0 := cf 1
  have HBX : Hid (JBox (W.setCell ⟨R, 1, none⟩ (.bool true)) w.heap.size) := Lib.hid (hz0.same (set_other (by omega)))
  have HLT := Lib.hid hlt
  clear h hz0 bW hlt
  rcases hk with rfl | rfl
  · clear h1 h4
    go_enter Tryz.func112, Tryz.ntmps112
    go_wp2_with (first | (refine store_val rfl (.tmp 2) (.tmp 20) rfl w.heap.size rfl (.int .i64 0) (.string ⟨#[]⟩) (.slice none 0 0) (.slice none 0 0) rfl rfl HBX.out (fun V hV hgV _ => ?_)))
    have hl := HLT.out
    refine bodyPost_ret (ret_val Tryz.results112 rfl hV) rfl ⟨rfl, ?_, HF.out.kept hgV hl⟩
    exact ((gb_below (row := some R) HB.out).trans (gb_set W R 1 _)).andThen hgV fun j e => .inl (by cases e; exact Nat.le_refl _)
  · simp only [List.length_nil] at c0
    cases bad with
    | true =>
      clear h1 h4
      go_enter Tryz.func112, Tryz.ntmps112
      go_wp2_with (first | (refine store_val rfl (.tmp 2) (.tmp 20) rfl w.heap.size rfl (.int .i64 0) (.string ⟨#[]⟩) (.slice none 0 0) (.slice none 0 0) rfl rfl HBX.out (fun V hV hgV _ => ?_)))
      have hl := HLT.out
      refine bodyPost_ret (ret_val Tryz.results112 rfl hV) rfl ⟨rfl, ?_, HF.out.kept hgV hl⟩
      exact ((gb_below (row := some R) HB.out).trans (gb_set W R 1 _)).andThen hgV fun j e => .inl (by cases e; exact Nat.le_refl _)
    | false =>
      clear h1 h4
      go_enter Tryz.func112, Tryz.ntmps112
      go_wp2_with (first | (refine store_val rfl (.tmp 2) (.tmp 20) rfl w.heap.size rfl (.int .i64 0) (.string ⟨#[]⟩) (.slice none 0 0) (.slice none 0 0) rfl rfl HBX.out (fun V hV hgV _ => ?_)))
      have hl := HLT.out
      refine bodyPost_ret (ret_val Tryz.results112 rfl hV) rfl ⟨rfl, ?_, HF.out.kept hgV hl⟩
      exact ((gb_below (row := some R) HB.out).trans (gb_set W R 1 _)).andThen hgV fun j e => .inl (by cases e; exact Nat.le_refl _)
end Go.Proofs.Jt
