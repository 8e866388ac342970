/- rpc: ids: may, value, idOf; params; message; Result. -/
import Derived.Test.YtaiaiiepbpbmmaaGreatDoorP4
import Derived.Laws.ResultCell
namespace Go.Proofs.Rp
open Go.RowKit Go.Maps Go.Lib Go.Proofs.Utf Go.Proofs.Jt Go.Proofs

/-- a box of an id -/
def IBox (w : World) (z : Nat) : Prop := ∃ a b c, w.heap[z]? = some (.cells #[a, b, c] 57 (0, 0))
theorem IBox.same {w w' : World} {z : Nat} (h : IBox w z) (he : w'.heap[z]? = w.heap[z]?) : IBox w' z := by
  obtain ⟨a, b, c, h⟩ := h
  exact ⟨a, b, c, he.trans h⟩
theorem IBox.lt {w : World} {z : Nat} (h : IBox w z) : z < w.heap.size := by
  obtain ⟨a, b, c, h⟩ := h
  exact (Array.getElem?_eq_some_iff.1 h).1
theorem IBox.alloc (w : World) (a b c : Value) : IBox (w.alloc (.cells #[a, b, c] 57)) w.heap.size := ⟨a, b, c, World.alloc_heap_new w _⟩
theorem store_id {ops : Array Oper} {rest : List Oper} {op : Oper} {a : Act} {w : World} {Q : Exit → Act → World → Prop} (hgd : op.guard = none) (x y : Operand) (ho : op.op = .store 57 x y) (z : Nat) (hx : a.eval x = .pointer (some ⟨z, 0, none⟩))
    (v0 v1 v2 : Value) (hy : a.eval y = .agg #[v0, v1, v2]) (h1 : (v0.oneCell' && v1.oneCell' && v2.oneCell') = true) (hz : IBox w z)
    (h : ∀ W, W.heap[z]? = some (.cells #[v0, v1, v2] 57 (0, 0)) → w.grownBy W (some z) → W.heap.size = w.heap.size → wpList Tryz.prog ops Q rest (a.put op.dst undef) W) : wpList Tryz.prog ops Q (op :: rest) a w := by
  obtain ⟨a0, a1, a2, hz⟩ := hz
  refine wpList_store_row hgd 57 x y ho z #[v0, v1, v2] hx hy 57 #[a0, a1, a2] hz (by kernel_rfl) rfl (by simpa [Bool.and_assoc] using h1) ?_
  exact h _ (heap_setRow_self hz) (gb_setRow _ _ _) (by show (w.heap.modify z _).size = _; rw [Array.size_modify])
theorem ret_id2 {fn : Func} {p u : Tmp} (h : fn.results = #[.cell p 57, .tmp u]) {tmps : Array Value} {w : World} {g : Nat} (hp : tmps.getD p undef = .pointer (some ⟨g, 0, none⟩)) {v0 v1 v2 e : Value} (he : tmps.getD u undef = e) (hg : w.heap[g]? = some (.cells #[v0, v1, v2] 57 (0, 0))) :
    (results fn tmps).run Tryz.prog w = .ok (.tuple #[.agg #[v0, v1, v2], e]) w := by
  rw [results_cell_tmp h, hp, he]
  have hl := run_loadVar_row (P := Tryz.prog) w g 57 57 #[v0, v1, v2] (0, 0) _ hg Tryz.underlying57 rfl (by kernel_rfl)
  simp only [asAddr, Sem.run_pure, Result.andThen_ok, hl]
theorem box3_of {w W : World} {a b c : Value} {t : TypeId} (hW : w.alloc (.cells #[a, b, c] t) = W) : ∀ V, Below W.heap.size W V → V.cell? ⟨w.heap.size, 0, none⟩ = some a ∧ V.cell? ⟨w.heap.size, 1, none⟩ = some b ∧ V.cell? ⟨w.heap.size, 2, none⟩ = some c := fun V hb => by
  have h1 : W.heap[w.heap.size]? = some (.cells #[a, b, c] t) := by rw [← hW]; exact World.alloc_heap_new w _
  have h2 := (hb.block _ (Array.getElem?_eq_some_iff.1 h1).1).trans h1
  refine ⟨?_, ?_, ?_⟩ <;> simp [World.cell?, h2]
theorem nilS {S : ByteArray} {s : List UInt8} (h : (⟨s.toArray⟩ : ByteArray) = S) : (s = [] ∧ S = ⟨#[]⟩) ∨ (¬ s = [] ∧ ¬ S.toList = [] ∧ S.toList.isEmpty = false) := by
  have hSl : S.data.toList = s := by rw [← h]
  by_cases e : s = []
  · exact .inl ⟨e, by rw [← h, e]⟩
  · refine .inr ⟨e, ?_, ?_⟩
    · rw [ByteArray.toList_eq, hSl]; exact e
    · rw [ByteArray.toList_eq, hSl]; cases s with | nil => exact absurd rfl e | cons _ _ => rfl
set_option maxRecDepth 100000 in
set_option maxHeartbeats 2000000 in
theorem may_any (i : IdV) (S : ByteArray) (hS : (⟨i.s.toArray⟩ : ByteArray) = S) (w : World) : Calls Tryz.prog 98 #[.agg #[.int .i64 i.k, .int .i64 i.n, .string S]] w fun e w' => e = .returned (.bool i.may) ∧ Below w.heap.size w w' := by
  obtain ⟨k, n, s⟩ := i
  dsimp only at hS ⊢
  obtain ⟨W, hW⟩ : ∃ W, w.alloc (.cells #[.int .i64 k, .int .i64 n, .string S] 57) = W := ⟨_, rfl⟩
  have bW := alloc_b hW
  obtain ⟨c0, c1, c2⟩ := box3_of hW W (Below.refl _ _)
  have hm : (⟨k, n, s⟩ : IdV).may = ((decide (k = 0) && decide (n = 0) && decide (s = [])) || (decide (k = 1) && decide (s = [])) || (decide (k = 2) && decide (n = 0))) := rfl
  rw [hm]
  have HB := Lib.hid bW
  clear bW hm
  by_cases k0 : k = 0
  · subst k0
    by_cases n0 : n = 0
    · subst n0
      rcases nilS hS with ⟨rfl, rfl⟩ | ⟨s1, s2, s3⟩
      · go_enter Tryz.func98, Tryz.ntmps98
        go_wp2_with fail
        go_ret
        exact ⟨rfl, HB.out⟩
      · rw [decide_eq_false s1]
        clear hS
        go_enter Tryz.func98, Tryz.ntmps98
        go_wp2_with fail
        go_ret
        exact ⟨rfl, HB.out⟩
    · have m1 : (n == 0) = false := beq_eq_false_iff_ne.2 n0
      rw [decide_eq_false n0]
      clear hS
      go_enter Tryz.func98, Tryz.ntmps98
      go_wp2_with fail
      go_ret
      exact ⟨rfl, HB.out⟩
  · have q0 : (k == 0) = false := beq_eq_false_iff_ne.2 k0
    rw [decide_eq_false k0]
    by_cases k1 : k = 1
    · subst k1
      rcases nilS hS with ⟨rfl, rfl⟩ | ⟨s1, s2, s3⟩
      · go_enter Tryz.func98, Tryz.ntmps98
        go_wp2_with fail
        go_ret
        exact ⟨rfl, HB.out⟩
      · rw [decide_eq_false s1]
        clear hS
        go_enter Tryz.func98, Tryz.ntmps98
        go_wp2_with fail
        go_ret
        exact ⟨rfl, HB.out⟩
    · have q1 : (k == 1) = false := beq_eq_false_iff_ne.2 k1
      rw [decide_eq_false k1]
      by_cases k2 : k = 2
      · subst k2
        by_cases n0 : n = 0
        · subst n0
          clear hS
          go_enter Tryz.func98, Tryz.ntmps98
          go_wp2_with fail
          go_ret
          exact ⟨rfl, HB.out⟩
        · have m1 : (n == 0) = false := beq_eq_false_iff_ne.2 n0
          rw [decide_eq_false n0]
          clear hS
          go_enter Tryz.func98, Tryz.ntmps98
          go_wp2_with fail
          go_ret
          exact ⟨rfl, HB.out⟩
      · have q2 : (k == 2) = false := beq_eq_false_iff_ne.2 k2
        rw [decide_eq_false k2]
        clear hS
        go_enter Tryz.func98, Tryz.ntmps98
        go_wp2_with fail
        go_ret
        exact ⟨rfl, HB.out⟩
theorem val_nil (i : IdV) : i.val.keys = [] ∧ i.val.items = [] := by
  unfold IdV.val
  split
  · exact ⟨rfl, rfl⟩
  · split <;> exact ⟨rfl, rfl⟩
set_option maxRecDepth 100000 in
set_option maxHeartbeats 2000000 in
theorem value_any (i : IdV) (S V : ByteArray) (hS : (⟨i.s.toArray⟩ : ByteArray) = S) (hV : (⟨i.val.str.toArray⟩ : ByteArray) = V) (h0 : -9223372036854775808 ≤ i.n) (h1 : i.n ≤ 9223372036854775807) (w : World) (hT : TenV w) :
    Calls Tryz.prog 100 #[.agg #[.int .i64 i.k, .int .i64 i.n, .string S]] w fun e w' => e = .returned (.agg #[.int .i64 i.val.kind, .string V, .slice none 0 0, .slice none 0 0]) ∧ Below w.heap.size w w' := by
  obtain ⟨k, n, s⟩ := i
  dsimp only at hS h0 h1 ⊢
  obtain ⟨W1, hW1⟩ : ∃ W, w.alloc (.cells #[.int .i64 k, .int .i64 n, .string S] 57) = W := ⟨_, rfl⟩
  obtain ⟨W, hW⟩ : ∃ W, W1.alloc (.cells #[.int .i64 0, .string ⟨#[]⟩, .slice none 0 0, .slice none 0 0] 25) = W := ⟨_, rfl⟩
  have bW1 := alloc_b hW1
  have bW2 := alloc_b hW
  have hz1 : W1.heap.size = w.heap.size + 1 := by rw [← hW1]; simp
  have hz : W1.heap.size = w.heap.size + 1 := hz1
  obtain ⟨c0, c1, c2⟩ := box3_of hW1 W bW2
  have hJ : JBox W (w.heap.size + 1) := by rw [← hW, ← hz1]; exact JBox.alloc _ _ _ _ _
  have HJ := Lib.hid hJ
  have HB := Lib.hid (Below.on bW1 bW2)
  have hT2 := hT.below (Below.on bW1 bW2)
  subst hW1
  clear bW1 bW2 hJ hT
  by_cases k1 : k = 1
  · have hv : (IdV.mk k n s).val = numJ n := if_pos k1
    rw [hv] at hV ⊢
    subst k1
    have hc := number_any n h0 h1 V hV W hT2
    rw [show (numJ n).kind = 3 from rfl]
    clear hV hv hS
    go_enter Tryz.func100, Tryz.ntmps100
    go_wp2_with (first
      | (go_at_call 108; refine hc.mono ?_; rintro e w1 ⟨rfl, hb1⟩; have hj1 : JBox w1 (w.heap.size + 1) := HJ.out.same (hb1.block _ HJ.out.lt); have HJ1 := Lib.hid hj1; clear hj1)
      | (refine store_val rfl (.tmp 2) (.tmp 9) rfl (w.heap.size + 1) rfl (.int .i64 3) (.string V) (.slice none 0 0) (.slice none 0 0) rfl rfl HJ1.out (fun V hV hgV _ => ?_)))
    refine bodyPost_ret (ret_val Tryz.results100 rfl hV) rfl ?_
    exact ⟨rfl, below_gbz (Below.on HB.out hb1) (by omega) hgV⟩
  · have q1 : (k == 1) = false := beq_eq_false_iff_ne.2 k1
    by_cases k2 : k = 2
    · have hv : (IdV.mk k n s).val = txtV s := by unfold IdV.val; rw [if_neg k1, if_pos k2]
      rw [hv] at hV ⊢
      subst k2
      have hVS : V = S := by rw [← hV, ← hS]; rfl
      subst hVS
      have hc := text_any V W
      rw [show (txtV s).kind = 4 from rfl]
      clear hV hv hS
      go_enter Tryz.func100, Tryz.ntmps100
      go_wp2_with (first
        | (go_at_call 101; refine hc.mono ?_; rintro e w1 ⟨rfl, hb1⟩; have hj1 : JBox w1 (w.heap.size + 1) := HJ.out.same (hb1.block _ HJ.out.lt); have HJ1 := Lib.hid hj1; clear hj1)
        | (refine store_val rfl (.tmp 2) (.tmp 14) rfl (w.heap.size + 1) rfl (.int .i64 4) (.string V) (.slice none 0 0) (.slice none 0 0) rfl rfl HJ1.out (fun V hV hgV _ => ?_)))
      refine bodyPost_ret (ret_val Tryz.results100 rfl hV) rfl ?_
      exact ⟨rfl, below_gbz (Below.on HB.out hb1) (by omega) hgV⟩
    · have hv : (IdV.mk k n s).val = jn 0 := by unfold IdV.val; rw [if_neg k1, if_neg k2]
      rw [hv] at hV ⊢
      have hVn : V = ⟨#[]⟩ := by rw [← hV]; rfl
      subst hVn
      have q2 : (k == 2) = false := beq_eq_false_iff_ne.2 k2
      rw [show (jn 0).kind = 0 from rfl]
      clear hV hv hS
      go_enter Tryz.func100, Tryz.ntmps100
      go_wp2_with (first
        | (refine store_val rfl (.tmp 2) (.tmp 15) rfl (w.heap.size + 1) rfl (.int .i64 0) (.string ⟨#[]⟩) (.slice none 0 0) (.slice none 0 0) rfl rfl HJ.out (fun V hV hgV _ => ?_)))
      refine bodyPost_ret (ret_val Tryz.results100 rfl hV) rfl ?_
      exact ⟨rfl, below_gbz HB.out (by omega) hgV⟩
/-- "jsonrpc": "2.0" -/
def L20 : List IC := [leafC (txtV v20)]
set_option maxRecDepth 100000 in
set_option maxHeartbeats 2000000 in
theorem message_new (w : World) : Calls Tryz.prog 99 #[] w fun e w' => ∃ lo tb ob kp kc ip ic, e = .returned (.tuple #[.pointer (some ⟨ob, 0, none⟩), .func (.func 154) #[] #[.pointer (some ⟨tb, 0, none⟩)]]) ∧ OP w.heap.size w' lo tb ob [kVer] L20 kp kc ip ic ∧ Below w.heap.size w w' := by
  have hV : (⟨(txtV v20).str.toArray⟩ : ByteArray) = ⟨#[50, 46, 48]⟩ := rfl
  go_enter Tryz.func99, Tryz.ntmps99
  go_wp2_with (first
    | (go_at_call 107; refine (object_new _).mono ?_; rintro e w1 ⟨lo, tb, ob, rfl, hop, hb1⟩; have HOP := Lib.hid hop; clear hop)
    | (go_at_call 101; refine (text_any _ _).mono ?_; rintro e w2 ⟨rfl, hb2⟩
       have h3 := add_leaf (HOP.out.below hb2) ⟨#[106, 115, 111, 110, 114, 112, 99]⟩ (txtV v20) ⟨#[50, 46, 48]⟩ rfl rfl rfl (by decide) (by decide))
    | (go_at_call 154; refine h3.mono ?_; rintro e w3 ⟨rfl, kp, kc, ip, ic, hop3, hb3⟩; have HO3 := Lib.hid hop3; clear hop3))
  go_ret2
  exact ⟨lo, tb, ob, kp, kc, ip, ic, rfl, HO3.out, Below.on hb1 hb2 |>.trans hb3⟩
end Go.Proofs.Rp
