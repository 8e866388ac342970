/- emendref24: Text; ids as the reference has them. -/
import Derived.Test.YtaiaiiepbpbmmaaGreatDoorP8
import Derived.Test.YtaiaiiepbpbmmaaGreatDoorVF2
namespace Go.Proofs.Rp
open Go.RowKit Go.Maps Go.Lib Go.Proofs.Utf Go.Proofs.Jt Go.Proofs

set_option maxRecDepth 100000 in
theorem rtxt_any (S : ByteArray) (w : World) : Calls Tryz.prog 97 #[.string S] w fun e w' => e = .returned (.agg #[.int .i64 4, .string S, .slice none 0 0, .slice none 0 0]) ∧ Below w.heap.size w w' := by
 obtain ⟨W, hW⟩ : ∃ W, w.alloc (.cells #[.int .i64 0, .string ⟨#[]⟩, .slice none 0 0, .slice none 0 0] 25) = W := ⟨_, rfl⟩
 have bW := alloc_b hW
 have hJ : JBox W w.heap.size := by rw [← hW]; exact JBox.alloc _ _ _ _ _
 have HJ := Lib.hid hJ
 have HB := Lib.hid bW
 clear bW hJ
 go_enter Tryz.func97, Tryz.ntmps97
 go_wp2_with (first | (refine store_val rfl (.tmp 2) (.tmp 4) rfl w.heap.size rfl (.int .i64 4) (.string S) (.slice none 0 0) (.slice none 0 0) rfl rfl HJ.out (fun V hV hgV _ => ?_)))
 refine bodyPost_ret (ret_val Tryz.results97 rfl hV) rfl ?_
 exact ⟨rfl, below_gbz HB.out (Nat.le_refl _) hgV⟩
/-- a box of the reference's id -/
def RIBox (w : World) (z : Nat) : Prop := ∃ a b c, w.heap[z]? = some (.cells #[a, b, c] 62 (0, 0))
theorem store_rid {ops : Array Oper} {rest : List Oper} {op : Oper} {a : Act} {w : World} {Q : Exit → Act → World → Prop} (hgd : op.guard = none) (x y : Operand) (ho : op.op = .store 62 x y) (z : Nat) (hx : a.eval x = .pointer (some ⟨z, 0, none⟩))
 (v0 v1 v2 : Value) (hy : a.eval y = .agg #[v0, v1, v2]) (h1 : (v0.oneCell' && v1.oneCell' && v2.oneCell') = true) (hz : RIBox w z)
 (h : ∀ W, W.heap[z]? = some (.cells #[v0, v1, v2] 62 (0, 0)) → w.grownBy W (some z) → W.heap.size = w.heap.size → wpList Tryz.prog ops Q rest (a.put op.dst undef) W) : wpList Tryz.prog ops Q (op :: rest) a w := by
 obtain ⟨a0, a1, a2, hz⟩ := hz
 refine wpList_store_row hgd 62 x y ho z #[v0, v1, v2] hx hy 62 #[a0, a1, a2] hz (by kernel_rfl) rfl (by simpa [Bool.and_assoc] using h1) ?_
 exact h _ (heap_setRow_self hz) (gb_setRow _ _ _) (by show (w.heap.modify z _).size = _; rw [Array.size_modify])
theorem ret_rid {fn : Func} {p : Tmp} (h : fn.results = #[.cell p 62]) {tmps : Array Value} {w : World} {g : Nat} (hp : tmps.getD p undef = .pointer (some ⟨g, 0, none⟩)) {v0 v1 v2 : Value} (hg : w.heap[g]? = some (.cells #[v0, v1, v2] 62 (0, 0))) :
 (results fn tmps).run Tryz.prog w = .ok (.agg #[v0, v1, v2]) w := results_cell_row h tmps w g 62 _ _ _ hp hg Tryz.underlying62 rfl (by kernel_rfl)
set_option maxRecDepth 100000 in
theorem their_any (k n : Int) (S : ByteArray) (w : World) : Calls Tryz.prog 41 #[.agg #[.int .i64 k, .int .i64 n, .string S]] w fun e w' => e = .returned (.agg #[.int .i64 k, .int .i64 n, .string S]) ∧ Below w.heap.size w w' := by
 obtain ⟨W1, hW1⟩ : ∃ W, w.alloc (.cells #[.int .i64 k, .int .i64 n, .string S] 57) = W := ⟨_, rfl⟩
 obtain ⟨W, hW⟩ : ∃ W, W1.alloc (.cells #[.int .i64 0, .int .i64 0, .string ⟨#[]⟩] 62) = W := ⟨_, rfl⟩
 have b1 := alloc_b hW1
 have b2 := alloc_b hW
 have hz1 : W1.heap.size = w.heap.size + 1 := by rw [← hW1]; simp
 obtain ⟨c0, c1, c2⟩ := box3_of hW1 W b2
 have hJ := row_of hW W (Below.refl _ _)
 rw [hz1] at hJ
 have HJ := Lib.hid hJ
 have HB := Lib.hid (Below.on b1 b2)
 subst hW1
 clear b1 b2 hJ
 go_enter Tryz.func41, Tryz.ntmps41
 go_wp2_with (first | (refine store_rid rfl (.tmp 2) (.tmp 9) rfl (w.heap.size + 1) rfl (.int .i64 k) (.int .i64 n) (.string S) rfl rfl ⟨_, _, _, HJ.out⟩ (fun V hV hgV _ => ?_)))
 refine bodyPost_ret (ret_rid Tryz.results41 rfl hV) rfl ?_
 exact ⟨rfl, below_gbz HB.out (by omega) hgV⟩
end Go.Proofs.Rp
