/- The walk of the reference's Pieces. -/
import Derived.Test.YtipbojiialfmeaaR1
namespace Go.Proofs.Ytipbojiialfmeaa
open Go.RowKit Go.Proofs.Utf Go.Lib

def rowCells (r : Row) : List Value := [.int .i64 r.from_, .int .i64 r.to_, .int .i64 r.units, .bool r.is_]
def rowsCells (l : List Row) : List Value := l.flatMap rowCells
theorem info57 : (Try.prog.info? 67).map (fun i => (i.zero, i.size, i.bytes)) = some (some (.agg #[.int .i64 0, .int .i64 0, .int .i64 0, .bool false]), 4, 32) := by kernel_rfl

theorem own_below {wr w1 : World} {base size n : Nat} {e : TypeId} {v : Value} {xs : List Value} (h : wr.ownsRow base e size v n xs) (hb : Below wr.heap.size wr w1) : w1.ownsRow base e size v n xs := by
  obtain ⟨h1, h2⟩ := h
  refine ⟨h1, ?_⟩
  rcases h2 with h2 | ⟨g, cap, cur, hv, hg, hh, r⟩
  · exact .inl h2
  · exact .inr ⟨g, cap, cur, hv, hg, (hb.block g (Array.getElem?_eq_some_iff.1 hh).1).trans hh, r⟩
theorem rows_step (rows : List Row) (s : ByteArray) (pos : Nat) (T : List Row) (hp : pos < s.size) (h : rows ++ rowsP (from_ s pos) pos = T) :
    (rows ++ [⟨pos, pos + (Utf8.decode s pos).2, wt (Utf8.decode s pos).1, ptP (Utf8.decode s pos).2 (Utf8.decode s pos).1⟩]) ++ rowsP (from_ s (pos + (Utf8.decode s pos).2)) (pos + (Utf8.decode s pos).2) = T := by
  rw [from_step s pos hp] at h
  rw [← h]
  simp [rowsP]
theorem rowsCells_snoc (rows : List Row) (r : Row) : rowsCells (rows ++ [r]) = rowsCells rows ++ rowCells r := by simp [rowsCells]
theorem cells_at_new (w : World) (C : List Value) (t : TypeId) (b : Nat) (hb : b = w.heap.size) : ∀ (j : Nat) (u : Value), C[j]? = some u → (w.alloc (.cells C.toArray t)).cell? ((⟨b, 0, none⟩ : Addr).add j) = some u := by
  subst hb
  intro j u h
  have e : (w.alloc (.cells C.toArray t)).cell? ⟨w.heap.size, j, none⟩ = C.toArray[j]? := World.cell?_alloc_mark w C.toArray t (0, 0) j
  rw [show (Addr.add ⟨w.heap.size, 0, none⟩ j) = ⟨w.heap.size, j, none⟩ by unfold Addr.add; split <;> simp_all, e]
  simpa using h
theorem row_one (a b c : Int) (d : Bool) : ∀ u ∈ [Value.int .i64 a, .int .i64 b, .int .i64 c, .bool d], u.oneCell' = true := by
  intro u hu
  simp at hu
  rcases hu with rfl | rfl | rfl | rfl <;> rfl
theorem own_base {wr : World} {base size n : Nat} {e : TypeId} {v : Value} {xs : List Value} (h : wr.ownsRow base e size v n xs) : ∀ k, v.ownBlock = some k → base ≤ k := by
  intro k hk
  rcases h.2 with ⟨rfl, _⟩ | ⟨g, cap, cur, rfl, hg, _⟩
  · simp [Value.ownBlock] at hk
  · simp [Value.ownBlock] at hk
    omega
theorem below_app {w wr w1 w2 : World} {o1 o2 : Obj} {size n : Nat} {e : TypeId} {v : Value} {xs : List Value} (hB : Below w.heap.size w wr) (hb1 : Below wr.heap.size wr w1)
    (hown : wr.ownsRow w.heap.size e size v n xs) (hg : ((w1.alloc o1).alloc o2).grownBy w2 v.ownBlock) : Below w.heap.size w w2 := by
  have h1 := hB.trans (hb1.mono hB.size)
  exact ((h1.alloc h1.size o1).alloc (by have := h1.size; simp; omega) o2).grown hg (by have := h1.size; simp; omega) (own_base hown)
theorem rows_own {w2 : World} {b : Nat} {v' : Value} {rows : List Row} {a c u : Nat} {d : Bool} {C : List Value} (hown2 : w2.ownsRow b 67 4 v' (rows.length + 1) (rowsCells rows ++ C)) (hC : C = rowCells ⟨a, c, u, d⟩) :
    w2.ownsRow b 67 4 v' (rows ++ [(⟨a, c, u, d⟩ : Row)]).length (rowsCells (rows ++ [(⟨a, c, u, d⟩ : Row)])) := by
  rw [rowsCells_snoc, List.length_append, ← hC]
  exact hown2
set_option maxHeartbeats 1000000 in
set_option maxRecDepth 100000 in
theorem pieces_any (s : ByteArray) (w : World) (hs : s.size ≤ 1048576) :
    Calls Try.prog 37 #[.string s] w fun e w' => ∃ v, e = .returned v ∧ w'.ownsRow w.heap.size 67 4 v (pieces s.data.toList).length (rowsCells (rowsP (pieces s.data.toList) 0)) ∧ Below w.heap.size w w' := by
  obtain ⟨i0, hi, hz0, hz1, hz2⟩ := info_parts info57
  go_enter Try.func37, Try.ntmps37
  go_wp2
  go_loopw [3, 4] (fun v i wr => ∃ (pos : Nat) (rows : List Row), i = .int .i64 pos ∧ pos ≤ s.size ∧ rows.length ≤ pos ∧ rows ++ rowsP (from_ s pos) pos = rowsP (pieces s.data.toList) 0 ∧ wr.ownsRow w.heap.size 67 4 v rows.length (rowsCells rows) ∧ Below w.heap.size w wr)
    (fun _ i _ => s.size - (RowKit.intOf i).toNat)
  case atStart => exact ⟨0, [], rfl, Nat.zero_le _, Nat.le_refl _, by simp [from_], World.ownsRow_nil _ _ _ _, Below.refl _ _⟩
  case round =>
    obtain ⟨pos, rows, rfl, hp0, hlen, hrows, hown, hB⟩ := hrel
    have HR := Lib.hid hrows
    clear hrows
    by_cases hp : (pos : Int) < (s.size : Int)
    · have hle := dec_le s pos (by omega)
      have hpos := dec_pos s pos
      have hcD := refDecode_in s pos wr (by omega) (by omega)
      have hgeq := headP_ge (s.data.toList.drop pos)
      have hle2 := headP_le (s.data.toList.drop pos)
      have hbig := headP_big (s.data.toList.drop pos)
      have HW : Hid (headW (s.data.toList.drop pos) = (Utf8.decode s pos).2) := by unfold headW; rw [decodeL_drop]; exact Lib.hid rfl
      have HD : Hid ((decodeL (s.data.toList.drop pos)).1 = (Utf8.decode s pos).1) := by rw [decodeL_drop]; exact Lib.hid rfl
      rw [HD.out] at hbig
      have hI := isPt_ptP (s.data.toList.drop pos)
      rw [HD.out, HW.out] at hI
      have HI := Lib.hid hI
      rw [HI.out] at hgeq
      rw [HW.out] at hcD
      clear hI
      generalize headP (s.data.toList.drop pos) = P at *
      by_cases hb : (65535 : Int) < P
      · have hwt : (wt (Utf8.decode s pos).1 : Int) = 2 := by
          have := hbig.1 hb
          unfold wt
          rw [if_pos this]; rfl
        have HWT := Lib.hid hwt
        clear hwt hbig
        go_wp2_with (first
          | (go_at_call 42; refine hcD.mono ?_; rintro e w1 ⟨rfl, hb1⟩; have hown1 := own_below hown hb1; have hsz := hb1.size)
          | (at_builtin; refine wpList_append_own _ rfl (.tmp 28) (.tmp 30) 64 rfl w.heap.size 67 i0 (.agg #[.int .i64 0, .int .i64 0, .int .i64 0, .bool false]) 4 32 Try.underlying64 hi hz0 hz1 hz2 rfl (by decide) _ _ _ rfl ((hown1.alloc _).alloc _) ⟨w1.heap.size + 1, 0, none⟩ 1 1 [.int .i64 pos, .int .i64 ((pos : Int) + ((Utf8.decode s pos).2 : Int)), .int .i64 2, .bool (ptP (Utf8.decode s pos).2 (Utf8.decode s pos).1)] rfl rfl (cells_at_new _ _ _ _ (by simp)) (row_one _ _ _ _) (by unfold maxLen; omega) (by omega) (by have := hB.size; simp; omega) ?_; intro v' w2 hown2 hgrow2 _))
        refine ⟨⟨pos + (Utf8.decode s pos).2, _, by go_num, hle, ?_, rows_step rows s pos _ (by omega) HR.out, rows_own (a := pos) (c := pos + (Utf8.decode s pos).2) (u := wt (Utf8.decode s pos).1) hown2 (by simp only [rowCells, HWT.out, Int.natCast_add]), below_app hB hb1 hown hgrow2⟩, ?_⟩
        · simp; omega
        · simp [RowKit.intOf]; omega
      · have hwt : (wt (Utf8.decode s pos).1 : Int) = 1 := by
          have := hbig
          unfold wt
          rw [if_neg (fun h => hb (this.2 h))]; rfl
        have HWT := Lib.hid hwt
        clear hwt hbig
        go_wp2_with (first
          | (go_at_call 42; refine hcD.mono ?_; rintro e w1 ⟨rfl, hb1⟩; have hown1 := own_below hown hb1; have hsz := hb1.size)
          | (at_builtin; refine wpList_append_own _ rfl (.tmp 28) (.tmp 30) 64 rfl w.heap.size 67 i0 (.agg #[.int .i64 0, .int .i64 0, .int .i64 0, .bool false]) 4 32 Try.underlying64 hi hz0 hz1 hz2 rfl (by decide) _ _ _ rfl ((hown1.alloc _).alloc _) ⟨w1.heap.size + 1, 0, none⟩ 1 1 [.int .i64 pos, .int .i64 ((pos : Int) + ((Utf8.decode s pos).2 : Int)), .int .i64 1, .bool (ptP (Utf8.decode s pos).2 (Utf8.decode s pos).1)] rfl rfl (cells_at_new _ _ _ _ (by simp)) (row_one _ _ _ _) (by unfold maxLen; omega) (by omega) (by have := hB.size; simp; omega) ?_; intro v' w2 hown2 hgrow2 _))
        refine ⟨⟨pos + (Utf8.decode s pos).2, _, by go_num, hle, ?_, rows_step rows s pos _ (by omega) HR.out, rows_own (a := pos) (c := pos + (Utf8.decode s pos).2) (u := wt (Utf8.decode s pos).1) hown2 (by simp only [rowCells, HWT.out, Int.natCast_add]), below_app hB hb1 hown hgrow2⟩, ?_⟩
        · simp; omega
        · simp [RowKit.intOf]; omega
    · have hend := from_end s pos (by omega)
      have HR2 : Hid (rows = rowsP (pieces s.data.toList) 0) := by
        have := HR.out
        rw [hend] at this
        exact Lib.hid (by simpa [rowsP] using this)
      clear hend
      go_wp2
      go_ret
      refine ⟨_, rfl, ?_, hB⟩
      have e1 : (pieces s.data.toList).length = rows.length := by rw [HR2.out, rowsP_length]
      rw [e1, ← HR2.out]
      exact hown
end Go.Proofs.Ytipbojiialfmeaa
