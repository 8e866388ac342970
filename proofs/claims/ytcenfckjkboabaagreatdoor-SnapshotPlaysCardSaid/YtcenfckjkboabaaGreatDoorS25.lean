/- The law's do: an act done to both. -/
import Derived.Test.YtcenfckjkboabaaGreatDoorS24
import Derived.Test.YtcenfckjkboabaaGreatDoorE14
import Derived.Test.YtcenfckjkboabaaGreatDoorS14
namespace Go.Proofs.Dc
open Go.RowKit Go.Proofs Go.Lib Go.Maps
set_option maxRecDepth 100000 in
set_option maxHeartbeats 2000000 in
theorem stheirs_any (w : World) (p : Option Addr) (n c : Nat) (l : List Chg) (hn : n = l.length) (hn2 : n ≤ 1000) (hI : ChgsAt w p l) :
    Calls Tryz.prog 69 #[.slice p n c] w fun e w' => ∃ v, e = .returned v ∧ w'.ownsRow w.heap.size 122 6 v n (chgsC l) ∧ Below w.heap.size w w' := by
  obtain ⟨i0, hi, hz0, hz1, hz2⟩ := infoP info122
  have HN := Lib.hid hn
  have HI := Lib.hid hI
  clear hn hI
  go_enter Tryz.func69, Tryz.ntmps69
  go_wp2
  go_loopw [3, 4] (fun v iv wr => ∃ k : Nat, iv = .int .i64 k ∧ k ≤ n ∧ wr.ownsRow w.heap.size 122 6 v k (chgsC (l.take k)) ∧ Below w.heap.size w wr) (fun _ iv _ => n - (RowKit.intOf iv).toNat)
  case atStart => exact ⟨0, rfl, Nat.zero_le _, World.ownsRow_nil _ _ _ _, Below.refl _ _⟩
  case round =>
    obtain ⟨k, rfl, hk, hown, hB⟩ := hrel
    obtain ⟨pl, cl, rfl⟩ := own_shape hown
    by_cases hkn : (k : Int) < (n : Int)
    · obtain ⟨x, hx⟩ : ∃ x, l[k]? = some x := ⟨_, List.getElem?_eq_getElem (by have := HN.out; omega)⟩
      obtain ⟨a, rfl, hA⟩ := HI.out k x hx
      have hA1 := hA.below hB
      have c0 := hA1.c0
      have c1 := hA1.c1
      have c2 := hA1.c2
      have c3 := hA1.c3
      have c4 := hA1.c4
      have c5 := hA1.c5
      have hcells : chgsC (l.take (k + 1)) = chgsC (l.take k) ++ [.bool x.whole, .int .i64 x.a, .int .i64 x.b, .int .i64 x.c, .int .i64 x.d, .string x.text] := by
        rw [List.take_add_one, hx]
        exact chgsC_snoc _ x
      have HCE := Lib.hid hcells
      have KC : Hid (∀ w', Below w.heap.size w w' → w'.cell? (a.add (k * 6)) = some (.bool x.whole) ∧ w'.cell? ⟨(a.add (k * 6)).block, (a.add (k * 6)).off + 1, none⟩ = some (.int .i64 x.a) ∧ w'.cell? ⟨(a.add (k * 6)).block, (a.add (k * 6)).off + 2, none⟩ = some (.int .i64 x.b) ∧ w'.cell? ⟨(a.add (k * 6)).block, (a.add (k * 6)).off + 3, none⟩ = some (.int .i64 x.c) ∧ w'.cell? ⟨(a.add (k * 6)).block, (a.add (k * 6)).off + 4, none⟩ = some (.int .i64 x.d) ∧ w'.cell? ⟨(a.add (k * 6)).block, (a.add (k * 6)).off + 5, none⟩ = some (.string x.text)) := Lib.hid fun w' hb => by
        have hA2 := hA.below hb
        exact ⟨hA2.c0, hA2.c1, hA2.c2, hA2.c3, hA2.c4, hA2.c5⟩
      clear hcells hx hA hA1
      go_wp2_with fail
      refine wp_region_held_drew (S := fun v => v.cell? (a.add (k * 6)) = some (.bool x.whole) ∧ v.cell? ⟨(a.add (k * 6)).block, (a.add (k * 6)).off + 1, none⟩ = some (.int .i64 x.a) ∧ v.cell? ⟨(a.add (k * 6)).block, (a.add (k * 6)).off + 2, none⟩ = some (.int .i64 x.b) ∧ v.cell? ⟨(a.add (k * 6)).block, (a.add (k * 6)).off + 3, none⟩ = some (.int .i64 x.c) ∧ v.cell? ⟨(a.add (k * 6)).block, (a.add (k * 6)).off + 4, none⟩ = some (.int .i64 x.d) ∧ v.cell? ⟨(a.add (k * 6)).block, (a.add (k * 6)).off + 5, none⟩ = some (.string x.text)) (by kernel_rfl) ⟨c0, c1, c2, c3, c4, c5⟩ (fun hHeld => ?_)
      refine wpAnyH_take (i := 0) (oi := { dst := some 11, op := Op.move (Operand.tmp 3), type := 93, pos := "law.go:40", after := #[], guard := none }) (v := ?_) rfl (by kernel_rfl) (by kernel_rfl) (by kernel_rfl) (fun _ _ _ h => h) (Or.inl ⟨by rfl, ?_⟩) (by assumption) ?_
      rotate_left
      · intro w hS; obtain ⟨hS0, hS1, hS2, hS3, hS4, hS5⟩ := hS; go_simp; with_reducible rfl
      try simp only [Act.put, List.setIfInBounds_toArray, List.set_cons_zero, List.set_cons_succ]
      refine wpAnyH_take (i := 1) (oi := { dst := some 12, op := Op.move (Operand.tmp 0), type := 33, pos := "law.go:40", after := #[], guard := none }) (v := ?_) rfl (by kernel_rfl) (by kernel_rfl) (by kernel_rfl) (fun _ _ _ h => h) (Or.inl ⟨by rfl, ?_⟩) (by assumption) ?_
      rotate_left
      · intro w hS; obtain ⟨hS0, hS1, hS2, hS3, hS4, hS5⟩ := hS; go_simp; with_reducible rfl
      try simp only [Act.put, List.setIfInBounds_toArray, List.set_cons_zero, List.set_cons_succ]
      refine wpAnyH_take (i := 2) (oi := { dst := some 13, op := Op.move (Operand.tmp 4), type := 3, pos := "law.go:40", after := #[], guard := none }) (v := ?_) rfl (by kernel_rfl) (by kernel_rfl) (by kernel_rfl) (fun _ _ _ h => h) (Or.inl ⟨by rfl, ?_⟩) (by assumption) ?_
      rotate_left
      · intro w hS; obtain ⟨hS0, hS1, hS2, hS3, hS4, hS5⟩ := hS; go_simp; with_reducible rfl
      try simp only [Act.put, List.setIfInBounds_toArray, List.set_cons_zero, List.set_cons_succ]
      refine wpAnyH_take (i := 3) (oi := { dst := some 14, op := Op.indexAddr 33 (Operand.tmp 12) (Operand.tmp 13), type := 0, pos := "law.go:40", after := #[{ on := 1, ground := Ground.data }, { on := 2, ground := Ground.data }], guard := none }) (v := ?_) rfl (by kernel_rfl) (by kernel_rfl) (by kernel_rfl) (fun _ _ _ h => h) (Or.inl ⟨by rfl, ?_⟩) (by assumption) ?_
      rotate_left
      · intro w hS; obtain ⟨hS0, hS1, hS2, hS3, hS4, hS5⟩ := hS; go_simp; with_reducible rfl
      try simp only [Act.put, List.setIfInBounds_toArray, List.set_cons_zero, List.set_cons_succ]
      refine wpAnyH_take (i := 4) (oi := { dst := some 15, op := Op.fieldAddr 78 (Operand.tmp 14) 0, type := 0, pos := "law.go:40", after := #[{ on := 3, ground := Ground.data }], guard := none }) (v := ?_) rfl (by kernel_rfl) (by kernel_rfl) (by kernel_rfl) (fun _ _ _ h => h) (Or.inl ⟨by rfl, ?_⟩) (by assumption) ?_
      rotate_left
      · intro w hS; obtain ⟨hS0, hS1, hS2, hS3, hS4, hS5⟩ := hS; go_simp; with_reducible rfl
      try simp only [Act.put, List.setIfInBounds_toArray, List.set_cons_zero, List.set_cons_succ]
      refine wpAnyH_take (i := 5) (oi := { dst := some 16, op := Op.load 4 (Operand.tmp 15), type := 4, pos := "law.go:40", after := #[{ on := 4, ground := Ground.data }], guard := none }) (v := ?_) rfl (by kernel_rfl) (by kernel_rfl) (by kernel_rfl) (fun _ _ _ h => h) (Or.inl ⟨by rfl, ?_⟩) (by assumption) ?_
      rotate_left
      · intro w hS; obtain ⟨hS0, hS1, hS2, hS3, hS4, hS5⟩ := hS; go_simp; with_reducible rfl
      try simp only [Act.put, List.setIfInBounds_toArray, List.set_cons_zero, List.set_cons_succ]
      refine wpAnyH_take (i := 6) (oi := { dst := some 17, op := Op.move (Operand.tmp 0), type := 33, pos := "law.go:40", after := #[], guard := none }) (v := ?_) rfl (by kernel_rfl) (by kernel_rfl) (by kernel_rfl) (fun _ _ _ h => h) (Or.inl ⟨by rfl, ?_⟩) (by assumption) ?_
      rotate_left
      · intro w hS; obtain ⟨hS0, hS1, hS2, hS3, hS4, hS5⟩ := hS; go_simp; with_reducible rfl
      try simp only [Act.put, List.setIfInBounds_toArray, List.set_cons_zero, List.set_cons_succ]
      refine wpAnyH_take (i := 7) (oi := { dst := some 18, op := Op.move (Operand.tmp 4), type := 3, pos := "law.go:40", after := #[], guard := none }) (v := ?_) rfl (by kernel_rfl) (by kernel_rfl) (by kernel_rfl) (fun _ _ _ h => h) (Or.inl ⟨by rfl, ?_⟩) (by assumption) ?_
      rotate_left
      · intro w hS; obtain ⟨hS0, hS1, hS2, hS3, hS4, hS5⟩ := hS; go_simp; with_reducible rfl
      try simp only [Act.put, List.setIfInBounds_toArray, List.set_cons_zero, List.set_cons_succ]
      refine wpAnyH_take (i := 8) (oi := { dst := some 19, op := Op.indexAddr 33 (Operand.tmp 17) (Operand.tmp 18), type := 0, pos := "law.go:40", after := #[{ on := 6, ground := Ground.data }, { on := 7, ground := Ground.data }], guard := none }) (v := ?_) rfl (by kernel_rfl) (by kernel_rfl) (by kernel_rfl) (fun _ _ _ h => h) (Or.inl ⟨by rfl, ?_⟩) (by assumption) ?_
      rotate_left
      · intro w hS; obtain ⟨hS0, hS1, hS2, hS3, hS4, hS5⟩ := hS; go_simp; with_reducible rfl
      try simp only [Act.put, List.setIfInBounds_toArray, List.set_cons_zero, List.set_cons_succ]
      refine wpAnyH_take (i := 9) (oi := { dst := some 20, op := Op.fieldAddr 78 (Operand.tmp 19) 1, type := 0, pos := "law.go:40", after := #[{ on := 8, ground := Ground.data }], guard := none }) (v := ?_) rfl (by kernel_rfl) (by kernel_rfl) (by kernel_rfl) (fun _ _ _ h => h) (Or.inl ⟨by rfl, ?_⟩) (by assumption) ?_
      rotate_left
      · intro w hS; obtain ⟨hS0, hS1, hS2, hS3, hS4, hS5⟩ := hS; go_simp; with_reducible rfl
      try simp only [Act.put, List.setIfInBounds_toArray, List.set_cons_zero, List.set_cons_succ]
      refine wpAnyH_take (i := 10) (oi := { dst := some 21, op := Op.load 76 (Operand.tmp 20), type := 76, pos := "law.go:40", after := #[{ on := 9, ground := Ground.data }], guard := none }) (v := ?_) rfl (by kernel_rfl) (by kernel_rfl) (by kernel_rfl) (fun _ _ _ h => h) (Or.inl ⟨by rfl, ?_⟩) (by assumption) ?_
      rotate_left
      · intro w hS; obtain ⟨hS0, hS1, hS2, hS3, hS4, hS5⟩ := hS; go_simp; with_reducible rfl
      try simp only [Act.put, List.setIfInBounds_toArray, List.set_cons_zero, List.set_cons_succ]
      refine wpAnyH_take (i := 11) (oi := { dst := some 22, op := Op.move (Operand.tmp 0), type := 33, pos := "law.go:40", after := #[], guard := none }) (v := ?_) rfl (by kernel_rfl) (by kernel_rfl) (by kernel_rfl) (fun _ _ _ h => h) (Or.inl ⟨by rfl, ?_⟩) (by assumption) ?_
      rotate_left
      · intro w hS; obtain ⟨hS0, hS1, hS2, hS3, hS4, hS5⟩ := hS; go_simp; with_reducible rfl
      try simp only [Act.put, List.setIfInBounds_toArray, List.set_cons_zero, List.set_cons_succ]
      refine wpAnyH_take (i := 12) (oi := { dst := some 23, op := Op.move (Operand.tmp 4), type := 3, pos := "law.go:40", after := #[], guard := none }) (v := ?_) rfl (by kernel_rfl) (by kernel_rfl) (by kernel_rfl) (fun _ _ _ h => h) (Or.inl ⟨by rfl, ?_⟩) (by assumption) ?_
      rotate_left
      · intro w hS; obtain ⟨hS0, hS1, hS2, hS3, hS4, hS5⟩ := hS; go_simp; with_reducible rfl
      try simp only [Act.put, List.setIfInBounds_toArray, List.set_cons_zero, List.set_cons_succ]
      refine wpAnyH_take (i := 13) (oi := { dst := some 24, op := Op.indexAddr 33 (Operand.tmp 22) (Operand.tmp 23), type := 0, pos := "law.go:40", after := #[{ on := 11, ground := Ground.data }, { on := 12, ground := Ground.data }], guard := none }) (v := ?_) rfl (by kernel_rfl) (by kernel_rfl) (by kernel_rfl) (fun _ _ _ h => h) (Or.inl ⟨by rfl, ?_⟩) (by assumption) ?_
      rotate_left
      · intro w hS; obtain ⟨hS0, hS1, hS2, hS3, hS4, hS5⟩ := hS; go_simp; with_reducible rfl
      try simp only [Act.put, List.setIfInBounds_toArray, List.set_cons_zero, List.set_cons_succ]
      refine wpAnyH_take (i := 14) (oi := { dst := some 25, op := Op.fieldAddr 78 (Operand.tmp 24) 2, type := 0, pos := "law.go:40", after := #[{ on := 13, ground := Ground.data }], guard := none }) (v := ?_) rfl (by kernel_rfl) (by kernel_rfl) (by kernel_rfl) (fun _ _ _ h => h) (Or.inl ⟨by rfl, ?_⟩) (by assumption) ?_
      rotate_left
      · intro w hS; obtain ⟨hS0, hS1, hS2, hS3, hS4, hS5⟩ := hS; go_simp; with_reducible rfl
      try simp only [Act.put, List.setIfInBounds_toArray, List.set_cons_zero, List.set_cons_succ]
      refine wpAnyH_take (i := 15) (oi := { dst := some 26, op := Op.load 9 (Operand.tmp 25), type := 9, pos := "law.go:40", after := #[{ on := 14, ground := Ground.data }], guard := none }) (v := ?_) rfl (by kernel_rfl) (by kernel_rfl) (by kernel_rfl) (fun _ _ _ h => h) (Or.inl ⟨by rfl, ?_⟩) (by assumption) ?_
      rotate_left
      · intro w hS; obtain ⟨hS0, hS1, hS2, hS3, hS4, hS5⟩ := hS; go_simp; with_reducible rfl
      try simp only [Act.put, List.setIfInBounds_toArray, List.set_cons_zero, List.set_cons_succ]
      refine wpAnyH_take (i := 16) (oi := { dst := some 27, op := Op.build 122 #[(0, Operand.tmp 16), (1, Operand.tmp 21), (2, Operand.tmp 26)], type := 122, pos := "law.go:40", after := #[{ on := 5, ground := Ground.data }, { on := 10, ground := Ground.data }, { on := 15, ground := Ground.data }], guard := none }) (v := ?_) rfl (by kernel_rfl) (by kernel_rfl) (by kernel_rfl) (fun _ _ _ h => h) (Or.inl ⟨by rfl, ?_⟩) (by assumption) ?_
      rotate_left
      · intro w hS; obtain ⟨hS0, hS1, hS2, hS3, hS4, hS5⟩ := hS; go_simp; with_reducible rfl
      try simp only [Act.put, List.setIfInBounds_toArray, List.set_cons_zero, List.set_cons_succ]
      have hown2 : wr.drew.ownsRow w.heap.size 122 6 (.slice pl k cl) k (chgsC (l.take k)) := hown
      have hB2 : Below w.heap.size w wr.drew := hB.drew
      generalize wr.drew = wd at *
      refine wpAnyH_ready (rs := [17]) (by kernel_rfl) (by simp) (AllReadyH.cons (o := { dst := some 28, op := Op.buildSlice 93 1 #[(0, Operand.tmp 27)], type := 93, pos := "law.go:40", after := #[{ on := 16, ground := Ground.data }], guard := none }) rfl (fun K hK => ?_) AllReadyH.nil)
      rw [if_pos (by rfl)]
      go_simp
      refine hK.out _ _ (KC.out _ (hB2.alloc hB2.size _)) (fun hS2 => ?_)
      clear hK K
      try simp only [Act.put, List.setIfInBounds_toArray, List.set_cons_zero, List.set_cons_succ]
      refine wpAnyH_ready (rs := [18]) (by kernel_rfl) (by simp) (AllReadyH.cons (o := { dst := some 29, op := Op.call { callee := Callee.builtin Builtin.append, args := #[Operand.tmp 11, Operand.tmp 28], argTypes := #[93, 93] }, type := 93, pos := "law.go:40", after := #[{ on := 0, ground := Ground.data }, { on := 17, ground := Ground.data }], guard := none }) rfl (fun K hK => ?_) AllReadyH.nil)
      rw [if_pos (by rfl)]
      refine wp_append_own _ (.tmp 11) (.tmp 28) 93 rfl w.heap.size 122 i0 _ 6 56 Tryz.underlying93 hi hz0 hz1 hz2 rfl (by decide) _ _ _ rfl (hown2.alloc _) ⟨wd.heap.size, 0, none⟩ 1 1 [.bool x.whole, .int .i64 x.a, .int .i64 x.b, .int .i64 x.c, .int .i64 x.d, .string x.text] rfl rfl (YtcenfckjkboabaaGreatDoor.cells_at_new _ _ _ _ rfl) (chgC_ones x) (by unfold maxLen; omega) (by omega) (by have := hB2.size; simp; omega) ?_; intro v' w4 hown' hgrow' _
      refine hK.out _ _ (KC.out _ ((hB2.alloc hB2.size _).grown hgrow' (by have := hB2.size; simp; omega) (fun q hq => (hown2.lt q hq).1))) (fun hS2 => ?_)
      clear hK K
      try simp only [Act.put, List.setIfInBounds_toArray, List.set_cons_zero, List.set_cons_succ]
      refine wpAnyH_take (i := 19) (oi := { dst := some 3, op := Op.assign (Operand.tmp 29), type := 93, pos := "law.go:40", after := #[{ on := 18, ground := Ground.data }, { on := 18, ground := Ground.chain }, { on := 0, ground := Ground.phase }, { on := 1, ground := Ground.phase }, { on := 2, ground := Ground.phase }, { on := 3, ground := Ground.phase }, { on := 4, ground := Ground.phase }, { on := 5, ground := Ground.phase }, { on := 6, ground := Ground.phase }, { on := 7, ground := Ground.phase }, { on := 8, ground := Ground.phase }, { on := 9, ground := Ground.phase }, { on := 10, ground := Ground.phase }, { on := 11, ground := Ground.phase }, { on := 12, ground := Ground.phase }, { on := 13, ground := Ground.phase }, { on := 14, ground := Ground.phase }, { on := 15, ground := Ground.phase }, { on := 16, ground := Ground.phase }, { on := 17, ground := Ground.phase }, { on := 18, ground := Ground.phase }], guard := none }) (v := ?_) rfl (by kernel_rfl) (by kernel_rfl) (by kernel_rfl) (fun _ _ _ h => h) (Or.inl ⟨by rfl, ?_⟩) (by assumption) ?_
      rotate_left
      · intro w hS; obtain ⟨hS0, hS1, hS2, hS3, hS4, hS5⟩ := hS; go_simp; with_reducible rfl
      try simp only [Act.put, List.setIfInBounds_toArray, List.set_cons_zero, List.set_cons_succ]
      refine wpAnyH_done (by kernel_rfl) ?_ _
      go_wp2_with fail
      go_roundw
      case rel => exact ⟨k + 1, by go_num, by omega, by rw [HCE.out]; exact hown', (hB2.alloc hB2.size _).grown hgrow' (by have := hB2.size; simp; omega) (fun q hq => (hown2.lt q hq).1)⟩
      case measure => simp [RowKit.intOf]; omega
    · have hkE : k = n := by omega
      subst hkE
      have hl : l.take k = l := by rw [HN.out]; exact List.take_length
      rw [hl] at hown
      go_wp2
      go_ret
      exact ⟨_, rfl, hown, hB⟩
/-- blocks of these kinds stay -/
def Kp (w w' : World) : Prop := ∀ (k : Nat) (c : Array Value) (t : TypeId) (f : Nat × Nat), w.heap[k]? = some (.cells c t f) → t = 47 ∨ t = 78 → w'.heap[k]? = some (.cells c t f)
theorem Kp.refl (w : World) : Kp w w := fun _ _ _ _ h _ => h
theorem Kp.trans {w w1 w2 : World} (h : Kp w w1) (g : Kp w1 w2) : Kp w w2 := fun k c t f a b => g k c t f (h k c t f a b) b
theorem Kp.below {w w' : World} (hb : Below w.heap.size w w') : Kp w w' := fun k c t f e _ => below_cells hb k c t f e
theorem Kp.keeps {w w' : World} (h : Keeps w w') : Kp w w' := fun k c t f e ht => h.cl k c t f e (by rcases ht with rfl | rfl <;> decide) (by rcases ht with rfl | rfl <;> decide) (by rcases ht with rfl | rfl <;> decide)
theorem Kp.fs {w w' : World} {s m lo : Nat} {G : List Gen} (hs : SV w s m lo G) (hf : FsK w w' s m) : Kp w w' := fun k c t f e ht => by
  obtain ⟨_, _, D, q⟩ := hs
  refine (hf.block k (Array.getElem?_eq_some_iff.1 e).1 (fun e2 => ?_) (fun e2 => ?_) (fun c f e2 => ?_)).trans e
  · exact ne_types e q.hd (by rcases ht with rfl | rfl <;> decide) e2
  · exact ne_map q.mp e e2.symm
  · rw [e] at e2
    simp at e2
    rcases ht with rfl | rfl <;> simp at e2
theorem other_78 {w w' : World} {k : Nat} {c : Array Value} {f : Nat × Nat} (hg : w.grownBy w' (some k)) (hk : w.heap[k]? = some (.cells c 78 f)) :
    (∀ (s m lo : Nat) (G : List Gen), SV w s m lo G → SV w' s m lo G) ∧ (∀ (r lo : Nat) (v : Value) (Bs : List Nat) (G : List Gen), AV w r lo v Bs G → AV w' r lo v Bs G) ∧ ∀ (j : Nat) (c : Array Value) (t : TypeId) (f : Nat × Nat), w.heap[j]? = some (.cells c t f) → t ≠ 78 → w'.heap[j]? = some (.cells c t f) := by
  have hc : ∀ (j : Nat) (c : Array Value) (t : TypeId) (f : Nat × Nat), w.heap[j]? = some (.cells c t f) → t ≠ 78 → w'.heap[j]? = some (.cells c t f) := fun j c' t' f' e ht => (hg.block j (Array.getElem?_eq_some_iff.1 e).1 (fun e2 => ne_types e hk ht (Option.some.inj e2))).trans e
  refine ⟨fun s m lo G ⟨hne, BB, D, q⟩ => ?_, fun r lo v Bs G h => h.cells fun k c t f e ht => hc k c t f e (by rcases ht with rfl | rfl | rfl | rfl | rfl <;> decide), hc⟩
  refine ⟨hne, BB, D, ⟨hc _ _ _ _ q.hd (by decide), q.slo, q.mlo, q.mp.kept hg (fun e => ne_map q.mp hk (Option.some.inj e)), q.siz, q.has, q.inj, fun j hj => ?_⟩⟩
  obtain ⟨a1, a2, ⟨ge⟩⟩ := q.el j hj
  exact ⟨a1, a2, ⟨ge.keep hg hk (by decide) (ne_types ge.hd hk (by decide))⟩⟩
/-- both, apart from each other -/
def PV (w : World) (s m r lo : Nat) (G : List Gen) : Prop := SV w s m lo G ∧ ∃ v Bs, AV w r lo v Bs G
theorem PV.below {w w' : World} {s m r lo : Nat} {G : List Gen} (h : PV w s m r lo G) (hb : Below w.heap.size w w') : PV w' s m r lo G := by
  obtain ⟨h1, v, Bs, h2⟩ := h
  exact ⟨h1.below hb, v, Bs, h2.below hb⟩
end Go.Proofs.Dc
namespace Go.Proofs.Sn
open Go.RowKit Go.Proofs Go.Lib Go.Maps Go.Proofs.Dc

/-- all generations behind an act -/
def doG (G : List Gen) (x : Act) : List Gen :=
  let S := bits BinOp.and IntKind.i64 x.todo 7
  if S = 4 then holdG G else if S = 5 ∨ S = 6 then freeG G x.gn else actG G x
structure Box6 (w : World) (g : Nat) (x : Act) : Prop where
  c0 : w.cell? ⟨g, 0, none⟩ = some (.int .i64 x.todo)
  c1 : w.cell? ⟨g, 1, none⟩ = some (.int .i64 x.gn)
  c2 : w.cell? ⟨g, 2, none⟩ = some (.string x.uri)
  c3 : w.cell? ⟨g, 3, none⟩ = some (.string x.text)
  c4 : w.cell? ⟨g, 4, none⟩ = some (.int .i64 x.ver)
  c5 : w.cell? ⟨g, 5, none⟩ = some (.slice x.lp x.ln x.lc)
theorem box6 {w : World} {g : Nat} {x : Act} (h : w.heap[g]? = some (actBox x)) : Box6 w g x := by
  unfold actBox at h
  refine ⟨?_, ?_, ?_, ?_, ?_, ?_⟩ <;> simp [World.cell?, h]
set_option maxRecDepth 100000 in
set_option maxHeartbeats 8000000 in
theorem rdo_any {w : World} (hT : Tabs w) {s m r lo : Nat} {G : List Gen} (hlo6 : 6 ≤ lo) (h : PV w s m r lo G) {N : Nat} (hG : GI G N) (hN : N ≤ 1000) (x : Act) (hok : okA x) (hn : x.ln = x.l.length) (hC : ∀ w', Below lo w w' → ChgsAt w' x.lp x.l) (hgw : wfI x.gn) :
    Calls Tryz.prog 27 #[.pointer (some ⟨s, 0, none⟩), .pointer (some ⟨r, 0, none⟩), actVal x] w fun e w' => e = .returned (.bool true) ∧ PV w' s m r lo (doG G x) ∧ Below lo w w' := by
  obtain ⟨g, hg, hi⟩ := hG.last
  have hl := hG.len
  have hheld : ∀ g ∈ G, g.held ≤ 1000000 := fun g hg => by have := hG.held g hg; omega
  obtain ⟨hus, hts, hls, hxs⟩ := hok
  obtain ⟨hsv, v, Bs, hav⟩ := h
  have hlw := sv_lo hsv
  have hne := hG.ne
  obtain ⟨V, hV⟩ : ∃ V, w.alloc (actBox x) = V := ⟨_, rfl⟩
  have bV : Below w.heap.size w V := by rw [← hV]; exact (Below.refl _ _).alloc (Nat.le_refl _) _
  have hb : V.heap[w.heap.size]? = some (actBox x) := by rw [← hV]; exact World.alloc_heap_new w _
  have HBX : Hid (∀ wx, Kp V wx → Box6 wx w.heap.size x) := Lib.hid fun wx hk => box6 (hk _ _ _ _ hb (.inl rfl))
  have HT : Hid (∀ wx, Below lo V wx → Tabs wx) := Lib.hid fun wx hs => (hT.below bV).six (hs.mono hlo6)
  have HCH : Hid (∀ wx, Below lo V wx → ChgsAt wx x.lp x.l) := Lib.hid fun wx hs => hC wx ((bV.mono hlw).trans hs)
  have hsV := hsv.below bV
  have haV := hav.below bV
  have hA : actG G x = nextG G (actE g.docs x) (actD g.docs x) x.uri.data.toList := by unfold actG; rw [hg]
  have HB : Hid (Below lo w V) := Lib.hid (bV.mono hlw)
  unfold doG
  rw [hA]
  unfold actE actD
  have HLW := Lib.hid hlw
  clear hT hC hA hb bV hsv hav
  unfold actVal
  unfold actBox at hV
  simp only
  obtain ⟨c0, c1, c2, c3, c4, c5⟩ := HBX.out V (Kp.refl V)
  generalize hS : bits BinOp.and IntKind.i64 x.todo 7 = S at *
  have HS := Lib.hid hS
  by_cases z0 : S = 0
  · subst z0
    have hop := sopen_any (HT.out V (Below.refl _ _)) hlo6 hsV (by omega) g hg hi x.uri x.text x.ver (by omega) (by omega)
    have hro := fun w1 (ha : AV w1 r lo v Bs G) => ropen_any ha (by omega) g hg hi x.uri x.text x.ver (by omega) (by omega)
    rw [if_neg (by decide), if_neg (by decide)]
    simp only [if_true]
    obtain ⟨E, hE⟩ : ∃ E, openE g.docs x.uri.data.toList x.text.data.toList = E := ⟨_, rfl⟩
    obtain ⟨GG, hGG⟩ : ∃ GG, nextG G E (openL g.docs x.uri.data.toList x.text.data.toList x.ver) x.uri.data.toList = GG := ⟨_, rfl⟩
    simp only [hE, hGG] at hop hro ⊢
    have hEE : (E == E) = true := by simp
    have HSV := Lib.hid hsV
    have HAV := Lib.hid haV
    have HRO := Lib.hid hro
    clear hE hGG hg hi hG hheld hne hsV haV hro hn hxs
    go_enter Tryz.func27, Tryz.ntmps27
    go_wp2_with (first
      | (go_at_call 33; refine hop.mono ?_; rintro e w1 ⟨rfl, h1, h2, h3⟩; have a1 := HAV.out.fs HSV.out h2; obtain ⟨k0, k1, k2, k3, k4, k5⟩ := HBX.out w1 (Kp.fs HSV.out h2))
      | (go_at_call 67; refine (HRO.out _ a1).mono ?_; rintro e w2 ⟨rfl, ha2, hk2, hb2⟩))
    go_ret
    exact ⟨rfl, ⟨hk2.sv _ _ _ _ h1, ha2⟩, HB.out.trans (h3.trans hb2)⟩
  · by_cases z1 : S = 1 ∨ S = 2
    · have hs4 : ¬ S = 4 := by omega
      have hs5 : ¬ (S = 5 ∨ S = 6) := by omega
      rw [if_neg hs4, if_neg hs5, if_neg z0, if_neg z0, if_pos z1, if_pos z1]
      clear hs4 hs5
      obtain ⟨ov, wo, hrun, hrow, hbo, g1, cp, rfl⟩ := append_chgs V x.lp x.ln x.lc x.l hn (by omega) (HCH.out V (Below.refl _ _))
      have ba : Below V.heap.size V (V.alloc (.cells #[] 78)) := (Below.refl _ _).alloc (Nat.le_refl _) _
      obtain ⟨a0, a1, a2, a3, a4, a5⟩ := HBX.out _ (Kp.below ba)
      obtain ⟨o0, o1, o2, o3, o4, o5⟩ := HBX.out _ (Kp.below hbo)
      have hloV : lo ≤ V.heap.size := Nat.le_trans HLW.out (by rw [← hV]; simp)
      have hBo : Below lo V wo := hbo.mono hloV
      have hg1 : V.heap.size ≤ g1 ∧ g1 < wo.heap.size := hrow.lt g1 rfl
      obtain ⟨po, co, hpo, hcho⟩ := row_chgs2 hn hxs hrow
      obtain rfl : po = some ⟨g1, 0, none⟩ := by cases hpo; rfl
      have hch := schange_any (HT.out wo hBo) hlo6 (hsV.below hbo) (by omega) g hg hi x.uri x.ver (some ⟨g1, 0, none⟩) x.ln cp x.l (by omega) hn (by omega) hcho (fun y hy => by have := hxs y hy; omega)
      have hro := fun w1 v1 Bs1 p c (ha : AV w1 r lo v1 Bs1 G) (hC1 : ChgsAt w1 p x.l) => rchange_any ha (by omega) g hg hi x.uri x.ver p x.ln c x.l hn (by omega) hC1 (fun y hy => by have := hxs y hy; omega)
      obtain ⟨E, hE⟩ : ∃ E, chgE g.docs x.uri.data.toList x.ver x.l = E := ⟨_, rfl⟩
      obtain ⟨GG, hGG⟩ : ∃ GG, nextG G E (chgL g.docs x.uri.data.toList x.ver x.l) x.uri.data.toList = GG := ⟨_, rfl⟩
      simp only [hE, hGG] at hch hro ⊢
      have hEE : (E == E) = true := by simp
      have hn8 : x.ln ≤ 8 := by omega
      have HSVo := Lib.hid (hsV.below hbo)
      have HAVo := Lib.hid (haV.below hbo)
      have HRO := Lib.hid hro
      have HCHG := Lib.hid hch
      have HROW := Lib.hid hrow
      have HXS := Lib.hid hxs
      have HN := Lib.hid hn
      have HKo : Hid (Kp V wo) := Lib.hid (Kp.below hbo)
      have HBo := Lib.hid hBo
      clear hE hGG hg hi hG hheld hne hsV haV hro hch hrow hcho hpo ba hbo hBo hxs hn
      have z0f : (S == 0) = false := beq_eq_false_iff_ne.2 z0
      have z12 : (S == 1) = true ∨ ((S == 1) = false ∧ (S == 2) = true) := by
        rcases z1 with rfl | rfl
        · exact .inl rfl
        · exact .inr ⟨rfl, rfl⟩
      clear z0 z1 HS
      go_enter Tryz.func27, Tryz.ntmps27
      rcases z12 with z1f | ⟨z1f, z2f⟩
      all_goals
        go_upto_region 9 with (first
          | (at_builtin; refine wpList_append_run (v := .slice (some ⟨V.heap.size, 0, none⟩) 0 0) (vx := .slice x.lp x.ln x.lc) rfl (.tmp 39) (.tmp 41) 33 rfl rfl rfl hrun ?_)
          | (go_at_call 36; refine HCHG.out.mono ?_; rintro e w6 ⟨rfl, s6, f6, b6⟩; have hk6 := HKo.out.trans (Kp.fs HSVo.out f6); have a6 := HAVo.out.fs HSVo.out f6; have B6 := HBo.out.trans b6; have row6 := own_cells HROW.out (w' := w6) (fun k c f e => Kp.fs HSVo.out f6 k c 78 f e (.inr rfl))))
        have HR6 := Lib.hid row6
        have HK6 := Lib.hid hk6
        clear hrun a0 a1 a2 a3 a4 a5 o0 o1 o2 o3 o4 o5 row6 hk6 f6 b6 HCHG c0 c1 c2 c3 c4 c5
        go_wp2_with fail
        go_loopw [10] (fun iv wr => ∃ (k : Nat) (cs : List Value), iv = .int .i64 k ∧ k ≤ x.ln ∧ wr.ownsRow V.heap.size 78 6 (.slice (some ⟨g1, 0, none⟩) x.ln cp) x.ln cs ∧ SV wr s m lo GG ∧ AV wr r lo v Bs G ∧ Below lo V wr ∧ (∀ (j : Nat) (c : Array Value) (t : TypeId) (f : Nat × Nat), w6.heap[j]? = some (.cells c t f) → t ≠ 78 → wr.heap[j]? = some (.cells c t f))) (fun iv _ => x.ln - (RowKit.intOf iv).toNat)
        case atStart => exact ⟨0, _, rfl, Nat.zero_le _, HR6.out, s6, a6, B6, fun _ _ _ _ e _ => e⟩
        case round =>
          obtain ⟨k, cs, rfl, hk, hown, sR, aR, bR, kR⟩ := hrel
          by_cases hkn : (k : Int) < (x.ln : Int)
          · have hth := own_there (o := k * 6) (m := 6) hown (by omega)
            obtain ⟨cs2, hown2, hg2, hout⟩ := own_setCells spoiltC (k * 6) _ _ hown
            have hcell : ∃ cur f, wr.heap[g1]? = some (.cells cur 78 f) := by
              rcases hown.2 with ⟨e, _⟩ | ⟨g2, cap, cur, e, _, h3, _⟩
              · cases e
              · cases e; exact ⟨_, _, h3⟩
            obtain ⟨cur, ff, hcur⟩ := hcell
            obtain ⟨x1, x2, x3⟩ := other_78 hg2 hcur
            have S2 := x1 _ _ _ _ sR
            have A2 := x2 _ _ _ _ _ aR
            have B2 := bR.grown hg2 (Nat.le_trans hloV bR.size) (fun q hq => by cases hq; omega)
            have K2 : ∀ (j : Nat) (c : Array Value) (t : TypeId) (f : Nat × Nat), w6.heap[j]? = some (.cells c t f) → t ≠ 78 → (wr.setCells g1 (k * 6) spoiltC).heap[j]? = some (.cells c t f) := fun j c t f e ht => x3 j c t f (kR j c t f e ht) ht
            obtain ⟨W2, hW2⟩ : ∃ W2, wr.setCells g1 (k * 6) spoiltC = W2 := ⟨_, rfl⟩
            rw [hW2] at hown2 S2 A2 B2 K2
            have HO2 := Lib.hid hown2
            have HS2 := Lib.hid S2
            have HA2 := Lib.hid A2
            have HB2 := Lib.hid B2
            have HK2 := Lib.hid K2
            have HTH := Lib.hid hth
            have HW2 := Lib.hid hW2
            clear hth hown2 hg2 hout hcur x1 x2 x3 S2 A2 B2 K2 hW2 hown sR aR bR kR
            go_wp2_with (first
              | (refine wpList_store_to rfl 78 (.tmp 59) (.tmp 58) rfl g1 (k * 6) spoiltC rfl rfl HTH.out (by kernel_rfl) spoilt_one HW2.out ?_))
            go_roundw
            case rel => exact ⟨k + 1, cs2, by go_num, by omega, HO2.out, HS2.out, HA2.out, HB2.out, HK2.out⟩
            case measure => simp [RowKit.intOf]; omega
          · have hbox : Hid (∀ wx, Below wr.heap.size wr wx → Box6 wx w.heap.size x) := Lib.hid fun wx hb => by
              have := HK6.out w.heap.size _ _ _ (by rw [← hV]; exact World.alloc_heap_new w _) (.inl rfl)
              exact box6 (below_cells hb _ _ _ _ (kR _ _ _ _ this (by decide)))
            have hch0 := HCH.out wr bR
            have hbox2 : Hid (∀ wx, Keeps wr wx → Box6 wx w.heap.size x) := Lib.hid fun wx hb => by
              have := HK6.out w.heap.size _ _ _ (by rw [← hV]; exact World.alloc_heap_new w _) (.inl rfl)
              exact box6 (hb.cl _ _ _ _ (kR _ _ _ _ this (by decide)) (by decide) (by decide) (by decide))
            have HSR := Lib.hid sR
            have HAR := Lib.hid aR
            have HBR := Lib.hid bR
            have HCH0 := Lib.hid hch0
            have bd : Below wr.heap.size wr wr.drew := (Below.refl _ _).drew
            obtain ⟨t0, t1, t2, t3, t4, t5⟩ := hbox.out _ bd
            clear hown kR sR aR bR hch0 hV
            go_wp2_with fail
            go_region_held3 (fun v => v.cell? ⟨w.heap.size, 1, none⟩ = some (.int .i64 x.gn) ∧ v.cell? ⟨w.heap.size, 2, none⟩ = some (.string x.uri) ∧ v.cell? ⟨w.heap.size, 4, none⟩ = some (.int .i64 x.ver) ∧ v.cell? ⟨w.heap.size, 5, none⟩ = some (.slice x.lp x.ln x.lc)) (first | exact ⟨t1, t2, t4, t5⟩ | exact ⟨p1, p2, p4, p5⟩ | exact ⟨q1, q2, q4, q5⟩) (first
              | (go_at_call 69; refine (stheirs_any _ x.lp x.ln x.lc x.l HN.out (by omega) (HCH0.out.below bd)).mono ?_; rintro e w7 ⟨tv, rfl, hrow7, hb7⟩; obtain ⟨p7, cp7, rfl, hch7⟩ := row_chgs2 HN.out HXS.out hrow7; have HCH7 := Lib.hid hch7; have b7 := bd.trans (hb7.mono bd.size); clear hch7 hrow7 hb7; obtain ⟨p0, p1, p2, p3, p4, p5⟩ := hbox.out _ b7)
              | (go_at_call 68; refine (HRO.out _ _ _ _ _ (HAR.out.below b7) HCH7.out).mono ?_; rintro e w8 ⟨rfl, ha8, hk8, hb8⟩; obtain ⟨q0, q1, q2, q3, q4, q5⟩ := hbox2.out _ ((Keeps.below b7).trans hk8)))
            go_wp2_with fail
            go_ret
            exact ⟨rfl, ⟨((Keeps.below b7).trans hk8).sv _ _ _ _ HSR.out, ha8⟩, HB.out.trans (HBR.out.trans ((b7.mono (Nat.le_trans hloV HBR.out.size)).trans hb8))⟩
    · by_cases z3 : S = 3
      · rw [if_neg (show ¬ S = 4 by omega), if_neg (show ¬ (S = 5 ∨ S = 6) by omega), if_neg z0, if_neg z0, if_neg z1, if_neg z1, if_pos z3, if_pos z3]
        subst z3
        have hcl := sclose_any (HT.out V (Below.refl _ _)) hlo6 hsV (by omega) g hg hi x.uri (by omega)
        have hro := fun w1 (ha : AV w1 r lo v Bs G) => rclose_any ha (by omega) g hg hi x.uri
        obtain ⟨E, hE⟩ : ∃ E, closeE g.docs x.uri.data.toList = E := ⟨_, rfl⟩
        obtain ⟨GG, hGG⟩ : ∃ GG, nextG G E (without x.uri.data.toList g.docs) x.uri.data.toList = GG := ⟨_, rfl⟩
        simp only [hE, hGG] at hcl hro ⊢
        have hEE : (E == E) = true := by simp
        have HSV := Lib.hid hsV
        have HAV := Lib.hid haV
        have HRO := Lib.hid hro
        clear hE hGG hg hi hG hheld hne hsV haV hro z0 z1 hn hxs
        go_enter Tryz.func27, Tryz.ntmps27
        go_wp2_with (first
          | (go_at_call 38; refine hcl.mono ?_; rintro e w1 ⟨rfl, h1, h2, h3⟩; have a1 := HAV.out.fs HSV.out h2; obtain ⟨k0, k1, k2, k3, k4, k5⟩ := HBX.out w1 (Kp.fs HSV.out h2))
          | (go_at_call 70; refine (HRO.out _ a1).mono ?_; rintro e w2 ⟨rfl, ha2, hk2, hb2⟩))
        go_ret
        exact ⟨rfl, ⟨hk2.sv _ _ _ _ h1, ha2⟩, HB.out.trans (h3.trans hb2)⟩
      · have z0f : (S == 0) = false := beq_eq_false_iff_ne.2 z0
        have z1f : (S == 1) = false := beq_eq_false_iff_ne.2 (fun e => z1 (.inl e))
        have z2f : (S == 2) = false := beq_eq_false_iff_ne.2 (fun e => z1 (.inr e))
        have z3f : (S == 3) = false := beq_eq_false_iff_ne.2 z3
        rw [if_neg z0, if_neg z0, if_neg z1, if_neg z1, if_neg z3, if_neg z3]
        rw [show nextG G 5 g.docs x.uri.data.toList = G from if_neg (by decide)]
        by_cases z4 : S = 4
        · rw [if_pos z4]
          subst z4
          have hho := hold_any hsV (by omega) hheld
          have hro := fun w1 (ha : AV w1 r lo v Bs G) => rhold_any ha hne (by omega) hheld
          obtain ⟨E, hE⟩ : ∃ E : Nat, G.length - 1 = E := ⟨_, rfl⟩
          simp only [hE] at hho hro
          have hEE : ((E : Int) == (E : Int)) = true := by simp
          have HSV := Lib.hid hsV
          have HAV := Lib.hid haV
          have HRO := Lib.hid hro
          clear hE hg hi hG hheld hne hsV haV hro z0 z1 z3 hn hxs
          go_enter Tryz.func27, Tryz.ntmps27
          go_wp2_with (first
            | (go_at_call 22; refine hho.mono ?_; rintro e w1 ⟨rfl, h1, h2, h3⟩; have a1 := HAV.out.fs HSV.out h2)
            | (go_at_call 71; refine (HRO.out _ a1).mono ?_; rintro e w2 ⟨rfl, ha2, hk2, hb2⟩))
          go_ret
          exact ⟨rfl, ⟨hk2.sv _ _ _ _ h1, _, _, ha2⟩, HB.out.trans (h3.trans hb2)⟩
        · rw [if_neg z4]
          have z4f : (S == 4) = false := beq_eq_false_iff_ne.2 z4
          by_cases z5 : S = 5 ∨ S = 6
          · rw [if_pos z5]
            have hfr := free_any hsV (by omega) hheld x.gn hgw
            have hro := fun w1 (ha : AV w1 r lo v Bs G) => rfree_any ha hne (by omega) hheld x.gn
            obtain ⟨E, hE⟩ : ∃ E, freeE G x.gn = E := ⟨_, rfl⟩
            simp only [hE] at hfr hro
            have hEE : (E == E) = true := by simp
            have HSV := Lib.hid hsV
            have HAV := Lib.hid haV
            have HRO := Lib.hid hro
            have z56 : (S == 5) = true ∨ ((S == 5) = false ∧ (S == 6) = true) := by
              rcases z5 with rfl | rfl
              · exact .inl rfl
              · exact .inr ⟨rfl, rfl⟩
            clear hE hg hi hG hheld hne hsV haV hro z0 z1 z3 z4 z5 HS hn hxs
            go_enter Tryz.func27, Tryz.ntmps27
            rcases z56 with z5f | ⟨z5f, z6f⟩
            all_goals
              go_wp2_with (first
                | (go_at_call 31; refine hfr.mono ?_; rintro e w1 ⟨rfl, h1, h2, h3⟩; have a1 := HAV.out.fs HSV.out h2; obtain ⟨k0, k1, k2, k3, k4, k5⟩ := HBX.out w1 (Kp.fs HSV.out h2))
                | (go_at_call 72; refine (HRO.out _ a1).mono ?_; rintro e w2 ⟨rfl, ha2, hk2, hb2⟩))
              go_ret
              exact ⟨rfl, ⟨hk2.sv _ _ _ _ h1, _, _, ha2⟩, HB.out.trans (h3.trans hb2)⟩
          · rw [if_neg z5]
            have z5f : (S == 5) = false := beq_eq_false_iff_ne.2 (fun e => z5 (.inl e))
            have z6f : (S == 6) = false := beq_eq_false_iff_ne.2 (fun e => z5 (.inr e))
            have HSV := Lib.hid hsV
            have HAV := Lib.hid haV
            clear hg hi hG hheld hne hsV haV z0 z1 z3 z4 z5 hn hxs
            go_enter Tryz.func27, Tryz.ntmps27
            go_wp2_with fail
            go_ret
            exact ⟨rfl, ⟨HSV.out, _, _, HAV.out⟩, HB.out⟩
end Go.Proofs.Sn
