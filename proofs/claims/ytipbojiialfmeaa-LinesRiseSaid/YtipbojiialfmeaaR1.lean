/- The walk of the reference's Decode. -/
import Derived.Test.YtipbojiialfmeaaW4
import Derived.Deep.QuietTactic
import Derived.BigQuiet
import Derived.Deep.RegionWith
import Derived.Deep.RegionHeld3
namespace Go.Proofs.Ytipbojiialfmeaa
open Go.RowKit Go.Proofs.Utf Go.Lib

theorem refDecode_out (s : ByteArray) (a : Int) (w : World) (_hs : s.size ≤ 140737488355328) (ha : a < 0 ∨ s.size ≤ a) :
    Calls Try.prog 42 #[.string s, .int .i64 a] w fun e w' => e = .returned (.tuple #[.int .i64 (-1), .int .i64 0]) ∧ w' = w := by
  by_cases h0 : a < 0
  · go_enter Try.func42, Try.ntmps42
    go_wp2
    go_ret2
    exact ⟨rfl, rfl⟩
  · have h1 : (s.size : Int) ≤ a := by omega
    go_enter Try.func42, Try.ntmps42
    go_wp2
    go_ret2
    exact ⟨rfl, rfl⟩
theorem byte_at (s : ByteArray) (a i : Nat) (h : a + i < s.size) : (s[a + i]'h) = (s.data.toList.drop a).getD i 0 := by
  rw [getD_dropU, getD_get!']
  cases s with
  | mk d => exact (getElem!_pos d (a + i) h).symm
theorem byte_at0 (s : ByteArray) (a : Nat) (h : a < s.size) : (s[a]'h) = (s.data.toList.drop a).getD 0 0 := byte_at s a 0 h
theorem slice_at (s : ByteArray) (a k : Nat) (h : a + k ≤ s.size) (w : World) :
    (Instr.slice 9 (.string s) (some (.int .i64 (a : Int))) (some (.int .i64 ((a : Int) + (k : Int)))) none).run Try.prog w = .ok (.string (s.extract a (a + k))) w := by
  rw [run_slice_string_if (P := Try.prog) (w := w) 9 s .i64 .i64 a (a + k) Try.underlying9, if_pos ⟨by omega, by omega⟩, if_pos ⟨by omega, by omega⟩]
  rw [show ((a : Int)).toNat = a from by omega, show ((a : Int) + (k : Int)).toNat = a + k from by omega]
theorem cut_bytes (s : ByteArray) (a k : Nat) (_h : a + k ≤ s.size) : (s.extract a (a + k)).data.toList = (s.data.toList.drop a).take k := by
  rw [Lib.extract_data, show a + k - a = k from by omega]
theorem cut_eq (s : ByteArray) (a k : Nat) (h : a + k ≤ s.size) (n : Int) (he : encodeRune n = (s.data.toList.drop a).take k) :
    (⟨(encodeRune n).toArray⟩ : ByteArray) = s.extract a (a + k) := by
  have := cut_bytes s a k h
  rw [he, ← this]
theorem cut_ne (s : ByteArray) (a k : Nat) (h : a + k ≤ s.size) (n : Int) (he : ¬ encodeRune n = (s.data.toList.drop a).take k) :
    (encodeRune n == (s.extract a (a + k)).toList) = false := by
  rw [Lib.toList_data, cut_bytes s a k h]
  simpa using he
theorem below_call {w wr w1 : World} (hB : Below w.heap.size w wr) (hb : Below wr.drew.heap.size wr.drew w1) : Below w.heap.size w w1 :=
  hB.drew.trans (hb.mono hB.size)
theorem below_draws {w wr : World} (hB : Below w.heap.size w wr) (n : Nat) : Below w.heap.size w (wr.drewN n) := by
  induction n with
  | zero => exact hB
  | succ n ih => exact ih.drew
theorem ret2_eq {a b : Int} {c d : Nat} (h1 : a = b) (h2 : c = d) : Ending.returned (.tuple #[.int .i64 a, .int .i64 (c : Int)]) = .returned (.tuple #[.int .i64 b, .int .i64 (d : Int)]) := by rw [h1, h2]
theorem no_more {l : List UInt8} {k : Nat} (h : ∀ j, 1 ≤ j → j < k → ¬ Hit l j) (hk : ¬ Hit l k) : ∀ j, 1 ≤ j → j < k + 1 → ¬ Hit l j := by
  intro j h1 h2
  by_cases e : j = k
  · subst e; exact hk
  · exact h j h1 (by omega)
set_option maxHeartbeats 4000000 in
set_option maxRecDepth 100000 in
theorem refDecode_in (s : ByteArray) (a : Nat) (w : World) (hs : s.size ≤ 140737488355328) (ha : a < s.size) :
    Calls Try.prog 42 #[.string s, .int .i64 a] w fun e w' =>
      e = .returned (.tuple #[.int .i64 (headP (s.data.toList.drop a)), .int .i64 (headW (s.data.toList.drop a))]) ∧ Below w.heap.size w w' := by
  obtain ⟨l, hl⟩ : ∃ l, l = s.data.toList.drop a := ⟨_, rfl⟩
  have HG0 : Hid ((s[a]'ha) = l.getD 0 0) := by rw [hl]; exact byte_at0 s a ha
  have HG : Hid (∀ i (h : a + i < s.size), (s[a + i]'h) = l.getD i 0) := by
    intro i h
    rw [hl]; exact byte_at s a i h
  rw [← hl]
  have hn0 : l.length = s.size - a := by rw [hl, List.length_drop, ← Lib.size_eq]
  have HN := Lib.hid hn0
  clear hn0
  have HL := Lib.hid hl
  clear hl
  have hb0 : ((s[a]'ha).toNat : Int) < 256 := by have := (s[a]'ha).toNat_lt; omega
  have hz0 : ¬ ((a : Int) < 0) := by omega
  go_enter Try.func42, Try.ntmps42
  go_wp2
  go_loopw [6] (fun n wr => ∃ k : Nat, n = .int .i64 k ∧ 1 ≤ k ∧ k ≤ 5 ∧ (k = 1 ∨ k ≤ s.size - a + 1) ∧ (∀ j, 1 ≤ j → j < k → ¬ Hit l j) ∧ Below w.heap.size w wr) (fun n _ => 5 - (RowKit.intOf n).toNat)
  case atStart => exact ⟨1, rfl, by omega, by omega, by omega, fun j h1 h2 => absurd h2 (by omega), Below.refl _ _⟩
  case round =>
    obtain ⟨k, rfl, hk1, hk5, hkl, hno, hB⟩ := hrel
    have HNO := Lib.hid hno
    have HKL := Lib.hid hkl
    clear hno hkl
    by_cases hk : k ≤ 4
    · by_cases hk2 : (k : Int) ≤ (s.size : Int) - (a : Int)
      · have hslice := fun w' => slice_at s a k (by omega) w'
        have hwrap : IntKind.i64.wrap ((a : Int) + (k : Int)) = (a : Int) + (k : Int) := IntWalk.i64_in _ (by omega)
        have HCE := Lib.hid (cut_eq s a k (by omega))
        have HCN := Lib.hid (cut_ne s a k (by omega))
        rw [← HL.out] at HCE HCN
        generalize s.extract a (a + k) = X at hslice HCE HCN
        rcases (show k ≤ 1 ∨ (2 ≤ k ∧ k ≤ 2) ∨ (3 ≤ k ∧ k ≤ 3) ∨ 4 ≤ k by omega) with hc | ⟨hc, hc'⟩ | ⟨hc, hc'⟩ | hc
        · have HC : Hid ((((s[a]'ha).toNat : Int)) = candL l k) := by rw [start1 l k _ HG0.out hk1 hc, ← gather_cand l k hk1 hk, show k = 1 from by omega]; exact Lib.hid rfl
          by_cases hp : IsPoint ((s[a]'ha).toNat : Int)
          · by_cases he : encodeRune ((s[a]'ha).toNat : Int) = l.take k
            · have hby : ∀ w, Calls Try.prog 49 #[.int .i64 ((s[a]'ha).toNat : Int)] w fun e w' => ∃ v, e = .returned v ∧ (convert 82 9 v).run Try.prog w' = .ok (.string X) w' ∧ Below w.heap.size w w' := fun w => by
                rw [← HCE.out _ he]; exact bytes_any _ w hp
              have HH : Hid (headP l = ((s[a]'ha).toNat : Int) ∧ headW l = k) := by
                have h1 : Hit l k := by
                  unfold Hit
                  rw [← HC.out]
                  exact ⟨hp, he⟩
                have h2 := head_found l k hk1 hk (by rw [HN.out]; omega) h1
                rw [← HC.out] at h2
                exact h2
              clear he
              go_wp2
              refine wp_region_held_drew (S := fun _ => True) (by kernel_rfl) trivial (fun hHeld => ?_)
              refine wpAnyH_take (i := 0) (oi := { dst := some 61, op := Op.move (Operand.tmp 8), type := 3, pos := "ref.go:49", after := #[], guard := none }) (v := ?_) rfl (by kernel_rfl) (by kernel_rfl) (by kernel_rfl) (fun _ _ _ h => h) (Or.inl ⟨by rfl, ?_⟩) trivial ?_
              rotate_left
              · intro w _; go_simp; with_reducible rfl
              try simp only [Act.put, List.setIfInBounds_toArray, List.set_cons_zero, List.set_cons_succ]
              refine wpAnyH_ready (rs := [1]) (by kernel_rfl) (by simp) (AllReadyH.cons (o := { dst := some 62, op := Op.call { callee := Callee.value (Operand.func 48), args := #[Operand.tmp 61], argTypes := #[3] }, type := 4, pos := "ref.go:49", after := #[{ on := 0, ground := Ground.data }], guard := none }) rfl (fun K hK => ?_) AllReadyH.nil)
              rw [if_pos (by rfl)]
              go_simp
              (refine (point_true _ _ hp).mono ?_; rintro e w' ⟨rfl, rfl⟩)
              refine hK.out _ _ trivial (fun _ => ?_)
              clear hK K
              try simp only [Act.put, List.setIfInBounds_toArray, List.set_cons_zero, List.set_cons_succ]
              refine wpAnyH_take (i := 2) (oi := { dst := some 63, op := Op.move (Operand.tmp 62), type := 4, pos := "ref.go:49", after := #[{ on := 1, ground := Ground.data }, { on := 1, ground := Ground.chain }], guard := none }) (v := ?_) rfl (by kernel_rfl) (by kernel_rfl) (by kernel_rfl) (fun _ _ _ h => h) (Or.inl ⟨by rfl, ?_⟩) trivial ?_
              rotate_left
              · intro w _; go_simp; with_reducible rfl
              try simp only [Act.put, List.setIfInBounds_toArray, List.set_cons_zero, List.set_cons_succ]
              refine wpAnyH_take (i := 3) (oi := { dst := some 64, op := Op.move (Operand.tmp 8), type := 3, pos := "ref.go:49", after := #[{ on := 2, ground := Ground.guard }], guard := some (2, true) }) (v := ?_) rfl (by kernel_rfl) (by kernel_rfl) (by kernel_rfl) (fun _ _ _ h => h) (Or.inl ⟨by rfl, ?_⟩) trivial ?_
              rotate_left
              · intro w _; go_simp; with_reducible rfl
              try simp only [Act.put, List.setIfInBounds_toArray, List.set_cons_zero, List.set_cons_succ]
              refine wpAnyH_take (i := 6) (oi := { dst := some 67, op := Op.move (Operand.tmp 0), type := 9, pos := "ref.go:49", after := #[{ on := 2, ground := Ground.guard }], guard := some (2, true) }) (v := ?_) rfl (by kernel_rfl) (by kernel_rfl) (by kernel_rfl) (fun _ _ _ h => h) (Or.inl ⟨by rfl, ?_⟩) trivial ?_
              rotate_left
              · intro w _; go_simp; with_reducible rfl
              try simp only [Act.put, List.setIfInBounds_toArray, List.set_cons_zero, List.set_cons_succ]
              refine wpAnyH_take (i := 7) (oi := { dst := some 68, op := Op.move (Operand.tmp 1), type := 3, pos := "ref.go:49", after := #[{ on := 2, ground := Ground.guard }], guard := some (2, true) }) (v := ?_) rfl (by kernel_rfl) (by kernel_rfl) (by kernel_rfl) (fun _ _ _ h => h) (Or.inl ⟨by rfl, ?_⟩) trivial ?_
              rotate_left
              · intro w _; go_simp; with_reducible rfl
              try simp only [Act.put, List.setIfInBounds_toArray, List.set_cons_zero, List.set_cons_succ]
              refine wpAnyH_take (i := 8) (oi := { dst := some 69, op := Op.move (Operand.tmp 1), type := 3, pos := "ref.go:49", after := #[{ on := 2, ground := Ground.guard }], guard := some (2, true) }) (v := ?_) rfl (by kernel_rfl) (by kernel_rfl) (by kernel_rfl) (fun _ _ _ h => h) (Or.inl ⟨by rfl, ?_⟩) trivial ?_
              rotate_left
              · intro w _; go_simp; with_reducible rfl
              try simp only [Act.put, List.setIfInBounds_toArray, List.set_cons_zero, List.set_cons_succ]
              refine wpAnyH_take (i := 9) (oi := { dst := some 70, op := Op.move (Operand.tmp 6), type := 3, pos := "ref.go:49", after := #[{ on := 2, ground := Ground.guard }], guard := some (2, true) }) (v := ?_) rfl (by kernel_rfl) (by kernel_rfl) (by kernel_rfl) (fun _ _ _ h => h) (Or.inl ⟨by rfl, ?_⟩) trivial ?_
              rotate_left
              · intro w _; go_simp; with_reducible rfl
              try simp only [Act.put, List.setIfInBounds_toArray, List.set_cons_zero, List.set_cons_succ]
              refine wpAnyH_take (i := 10) (oi := { dst := some 71, op := Op.binOp BinOp.add 3 (Operand.tmp 69) (Operand.tmp 70) 3, type := 3, pos := "ref.go:49", after := #[{ on := 8, ground := Ground.data }, { on := 9, ground := Ground.data }, { on := 2, ground := Ground.guard }], guard := some (2, true) }) (v := ?_) rfl (by kernel_rfl) (by kernel_rfl) (by kernel_rfl) (fun _ _ _ h => h) (Or.inl ⟨by rfl, ?_⟩) trivial ?_
              rotate_left
              · intro w _; go_simp; with_reducible rfl
              try simp only [Act.put, List.setIfInBounds_toArray, List.set_cons_zero, List.set_cons_succ]
              refine wpAnyH_take (i := 11) (oi := { dst := some 72, op := Op.slice 9 (Operand.tmp 67) (some (Operand.tmp 68)) (some (Operand.tmp 71)) none, type := 9, pos := "ref.go:49", after := #[{ on := 6, ground := Ground.data }, { on := 7, ground := Ground.data }, { on := 10, ground := Ground.data }, { on := 2, ground := Ground.guard }], guard := some (2, true) }) (v := ?_) rfl (by kernel_rfl) (by kernel_rfl) (by kernel_rfl) (fun _ _ _ h => h) (Or.inl ⟨by rfl, ?_⟩) trivial ?_
              rotate_left
              · intro w _; go_simp; with_reducible rfl
              try simp only [Act.put, List.setIfInBounds_toArray, List.set_cons_zero, List.set_cons_succ]
              refine wpAnyH_ready (rs := [4]) (by kernel_rfl) (by simp) (AllReadyH.cons (o := { dst := some 65, op := Op.call { callee := Callee.value (Operand.func 49), args := #[Operand.tmp 64], argTypes := #[3] }, type := 82, pos := "ref.go:49", after := #[{ on := 3, ground := Ground.data }, { on := 2, ground := Ground.chain }, { on := 2, ground := Ground.guard }], guard := some (2, true) }) rfl (fun K hK => ?_) AllReadyH.nil)
              rw [if_pos (by rfl)]
              go_simp
              (refine (hby _).mono ?_; rintro e w1 ⟨v, rfl, hcv, hb⟩)
              refine hK.out _ _ trivial (fun _ => ?_)
              clear hK K
              try simp only [Act.put, List.setIfInBounds_toArray, List.set_cons_zero, List.set_cons_succ]
              refine wpAnyH_ready (rs := [5]) (by kernel_rfl) (by simp) (AllReadyH.cons (o := { dst := some 66, op := Op.convert 82 9 (Operand.tmp 65), type := 9, pos := "ref.go:49", after := #[{ on := 4, ground := Ground.data }, { on := 2, ground := Ground.guard }], guard := some (2, true) }) rfl (fun K hK => ?_) AllReadyH.nil)
              rw [if_pos (by rfl)]
              go_simp
              refine hK.out _ _ trivial (fun _ => ?_)
              clear hK K
              try simp only [Act.put, List.setIfInBounds_toArray, List.set_cons_zero, List.set_cons_succ]
              refine wpAnyH_take (i := 12) (oi := { dst := some 73, op := Op.binOp BinOp.eql 9 (Operand.tmp 66) (Operand.tmp 72) 9, type := 4, pos := "ref.go:49", after := #[{ on := 5, ground := Ground.data }, { on := 11, ground := Ground.data }, { on := 2, ground := Ground.guard }], guard := some (2, true) }) (v := ?_) rfl (by kernel_rfl) (by kernel_rfl) (by kernel_rfl) (fun _ _ _ h => h) (Or.inl ⟨by rfl, ?_⟩) trivial ?_
              rotate_left
              · intro w _; go_simp; with_reducible rfl
              try simp only [Act.put, List.setIfInBounds_toArray, List.set_cons_zero, List.set_cons_succ]
              refine wpAnyH_take (i := 13) (oi := { dst := some 74, op := Op.pick (Operand.tmp 63) (Operand.tmp 73) (Operand.const (Value.bool false)), type := 4, pos := "ref.go:49", after := #[{ on := 2, ground := Ground.data }, { on := 12, ground := Ground.data }], guard := none }) (v := ?_) rfl (by kernel_rfl) (by kernel_rfl) (by kernel_rfl) (fun _ _ _ h => h) (Or.inl ⟨by rfl, ?_⟩) trivial ?_
              rotate_left
              · intro w _; go_simp; with_reducible rfl
              try simp only [Act.put, List.setIfInBounds_toArray, List.set_cons_zero, List.set_cons_succ]
              refine wpAnyH_done (by kernel_rfl) ?_ _
              go_wp2
              go_ret2
              exact ⟨ret2_eq HH.out.1.symm HH.out.2.symm, below_call hB (by assumption)⟩
            · have hne := HCN.out _ he
              have HNH : Hid (¬ Hit l k) := by
                unfold Hit
                rw [← HC.out]
                exact fun h => he h.2
              have hby : ∀ w, Calls Try.prog 49 #[.int .i64 ((s[a]'ha).toNat : Int)] w (BytesPost ((s[a]'ha).toNat : Int) w) := fun w => bytes_any _ w hp
              clear he
              go_wp2
              refine wp_region_held_drew (S := fun _ => True) (by kernel_rfl) trivial (fun hHeld => ?_)
              refine wpAnyH_take (i := 0) (oi := { dst := some 61, op := Op.move (Operand.tmp 8), type := 3, pos := "ref.go:49", after := #[], guard := none }) (v := ?_) rfl (by kernel_rfl) (by kernel_rfl) (by kernel_rfl) (fun _ _ _ h => h) (Or.inl ⟨by rfl, ?_⟩) trivial ?_
              rotate_left
              · intro w _; go_simp; with_reducible rfl
              try simp only [Act.put, List.setIfInBounds_toArray, List.set_cons_zero, List.set_cons_succ]
              refine wpAnyH_ready (rs := [1]) (by kernel_rfl) (by simp) (AllReadyH.cons (o := { dst := some 62, op := Op.call { callee := Callee.value (Operand.func 48), args := #[Operand.tmp 61], argTypes := #[3] }, type := 4, pos := "ref.go:49", after := #[{ on := 0, ground := Ground.data }], guard := none }) rfl (fun K hK => ?_) AllReadyH.nil)
              rw [if_pos (by rfl)]
              go_simp
              (refine (point_true _ _ hp).mono ?_; rintro e w' ⟨rfl, rfl⟩)
              refine hK.out _ _ trivial (fun _ => ?_)
              clear hK K
              try simp only [Act.put, List.setIfInBounds_toArray, List.set_cons_zero, List.set_cons_succ]
              refine wpAnyH_take (i := 2) (oi := { dst := some 63, op := Op.move (Operand.tmp 62), type := 4, pos := "ref.go:49", after := #[{ on := 1, ground := Ground.data }, { on := 1, ground := Ground.chain }], guard := none }) (v := ?_) rfl (by kernel_rfl) (by kernel_rfl) (by kernel_rfl) (fun _ _ _ h => h) (Or.inl ⟨by rfl, ?_⟩) trivial ?_
              rotate_left
              · intro w _; go_simp; with_reducible rfl
              try simp only [Act.put, List.setIfInBounds_toArray, List.set_cons_zero, List.set_cons_succ]
              refine wpAnyH_take (i := 3) (oi := { dst := some 64, op := Op.move (Operand.tmp 8), type := 3, pos := "ref.go:49", after := #[{ on := 2, ground := Ground.guard }], guard := some (2, true) }) (v := ?_) rfl (by kernel_rfl) (by kernel_rfl) (by kernel_rfl) (fun _ _ _ h => h) (Or.inl ⟨by rfl, ?_⟩) trivial ?_
              rotate_left
              · intro w _; go_simp; with_reducible rfl
              try simp only [Act.put, List.setIfInBounds_toArray, List.set_cons_zero, List.set_cons_succ]
              refine wpAnyH_take (i := 6) (oi := { dst := some 67, op := Op.move (Operand.tmp 0), type := 9, pos := "ref.go:49", after := #[{ on := 2, ground := Ground.guard }], guard := some (2, true) }) (v := ?_) rfl (by kernel_rfl) (by kernel_rfl) (by kernel_rfl) (fun _ _ _ h => h) (Or.inl ⟨by rfl, ?_⟩) trivial ?_
              rotate_left
              · intro w _; go_simp; with_reducible rfl
              try simp only [Act.put, List.setIfInBounds_toArray, List.set_cons_zero, List.set_cons_succ]
              refine wpAnyH_take (i := 7) (oi := { dst := some 68, op := Op.move (Operand.tmp 1), type := 3, pos := "ref.go:49", after := #[{ on := 2, ground := Ground.guard }], guard := some (2, true) }) (v := ?_) rfl (by kernel_rfl) (by kernel_rfl) (by kernel_rfl) (fun _ _ _ h => h) (Or.inl ⟨by rfl, ?_⟩) trivial ?_
              rotate_left
              · intro w _; go_simp; with_reducible rfl
              try simp only [Act.put, List.setIfInBounds_toArray, List.set_cons_zero, List.set_cons_succ]
              refine wpAnyH_take (i := 8) (oi := { dst := some 69, op := Op.move (Operand.tmp 1), type := 3, pos := "ref.go:49", after := #[{ on := 2, ground := Ground.guard }], guard := some (2, true) }) (v := ?_) rfl (by kernel_rfl) (by kernel_rfl) (by kernel_rfl) (fun _ _ _ h => h) (Or.inl ⟨by rfl, ?_⟩) trivial ?_
              rotate_left
              · intro w _; go_simp; with_reducible rfl
              try simp only [Act.put, List.setIfInBounds_toArray, List.set_cons_zero, List.set_cons_succ]
              refine wpAnyH_take (i := 9) (oi := { dst := some 70, op := Op.move (Operand.tmp 6), type := 3, pos := "ref.go:49", after := #[{ on := 2, ground := Ground.guard }], guard := some (2, true) }) (v := ?_) rfl (by kernel_rfl) (by kernel_rfl) (by kernel_rfl) (fun _ _ _ h => h) (Or.inl ⟨by rfl, ?_⟩) trivial ?_
              rotate_left
              · intro w _; go_simp; with_reducible rfl
              try simp only [Act.put, List.setIfInBounds_toArray, List.set_cons_zero, List.set_cons_succ]
              refine wpAnyH_take (i := 10) (oi := { dst := some 71, op := Op.binOp BinOp.add 3 (Operand.tmp 69) (Operand.tmp 70) 3, type := 3, pos := "ref.go:49", after := #[{ on := 8, ground := Ground.data }, { on := 9, ground := Ground.data }, { on := 2, ground := Ground.guard }], guard := some (2, true) }) (v := ?_) rfl (by kernel_rfl) (by kernel_rfl) (by kernel_rfl) (fun _ _ _ h => h) (Or.inl ⟨by rfl, ?_⟩) trivial ?_
              rotate_left
              · intro w _; go_simp; with_reducible rfl
              try simp only [Act.put, List.setIfInBounds_toArray, List.set_cons_zero, List.set_cons_succ]
              refine wpAnyH_take (i := 11) (oi := { dst := some 72, op := Op.slice 9 (Operand.tmp 67) (some (Operand.tmp 68)) (some (Operand.tmp 71)) none, type := 9, pos := "ref.go:49", after := #[{ on := 6, ground := Ground.data }, { on := 7, ground := Ground.data }, { on := 10, ground := Ground.data }, { on := 2, ground := Ground.guard }], guard := some (2, true) }) (v := ?_) rfl (by kernel_rfl) (by kernel_rfl) (by kernel_rfl) (fun _ _ _ h => h) (Or.inl ⟨by rfl, ?_⟩) trivial ?_
              rotate_left
              · intro w _; go_simp; with_reducible rfl
              try simp only [Act.put, List.setIfInBounds_toArray, List.set_cons_zero, List.set_cons_succ]
              refine wpAnyH_ready (rs := [4]) (by kernel_rfl) (by simp) (AllReadyH.cons (o := { dst := some 65, op := Op.call { callee := Callee.value (Operand.func 49), args := #[Operand.tmp 64], argTypes := #[3] }, type := 82, pos := "ref.go:49", after := #[{ on := 3, ground := Ground.data }, { on := 2, ground := Ground.chain }, { on := 2, ground := Ground.guard }], guard := some (2, true) }) rfl (fun K hK => ?_) AllReadyH.nil)
              rw [if_pos (by rfl)]
              go_simp
              (refine (hby _).mono ?_; rintro e w1 ⟨v, rfl, hcv, hb⟩)
              refine hK.out _ _ trivial (fun _ => ?_)
              clear hK K
              try simp only [Act.put, List.setIfInBounds_toArray, List.set_cons_zero, List.set_cons_succ]
              refine wpAnyH_ready (rs := [5]) (by kernel_rfl) (by simp) (AllReadyH.cons (o := { dst := some 66, op := Op.convert 82 9 (Operand.tmp 65), type := 9, pos := "ref.go:49", after := #[{ on := 4, ground := Ground.data }, { on := 2, ground := Ground.guard }], guard := some (2, true) }) rfl (fun K hK => ?_) AllReadyH.nil)
              rw [if_pos (by rfl)]
              go_simp
              refine hK.out _ _ trivial (fun _ => ?_)
              clear hK K
              try simp only [Act.put, List.setIfInBounds_toArray, List.set_cons_zero, List.set_cons_succ]
              refine wpAnyH_take (i := 12) (oi := { dst := some 73, op := Op.binOp BinOp.eql 9 (Operand.tmp 66) (Operand.tmp 72) 9, type := 4, pos := "ref.go:49", after := #[{ on := 5, ground := Ground.data }, { on := 11, ground := Ground.data }, { on := 2, ground := Ground.guard }], guard := some (2, true) }) (v := ?_) rfl (by kernel_rfl) (by kernel_rfl) (by kernel_rfl) (fun _ _ _ h => h) (Or.inl ⟨by rfl, ?_⟩) trivial ?_
              rotate_left
              · intro w _; go_simp; with_reducible rfl
              try simp only [Act.put, List.setIfInBounds_toArray, List.set_cons_zero, List.set_cons_succ]
              refine wpAnyH_take (i := 13) (oi := { dst := some 74, op := Op.pick (Operand.tmp 63) (Operand.tmp 73) (Operand.const (Value.bool false)), type := 4, pos := "ref.go:49", after := #[{ on := 2, ground := Ground.data }, { on := 12, ground := Ground.data }], guard := none }) (v := ?_) rfl (by kernel_rfl) (by kernel_rfl) (by kernel_rfl) (fun _ _ _ h => h) (Or.inl ⟨by rfl, ?_⟩) trivial ?_
              rotate_left
              · intro w _; go_simp; with_reducible rfl
              try simp only [Act.put, List.setIfInBounds_toArray, List.set_cons_zero, List.set_cons_succ]
              refine wpAnyH_done (by kernel_rfl) ?_ _
              go_wp2
              refine ⟨⟨k + 1, by go_num, by omega, by omega, Or.inr (by omega), no_more HNO.out HNH.out, below_call hB (by assumption)⟩, ?_⟩
              simp [RowKit.intOf]; omega
          · have HNH : Hid (¬ Hit l k) := by
              unfold Hit
              rw [← HC.out]
              exact fun h => hp h.1
            go_wp2
            go_quiet ((go_at_call 48; exact Calls.quiet_of_same (point_false _ _ hp)))
            go_wp2
            refine ⟨⟨k + 1, by go_num, by omega, by omega, Or.inr (by omega), no_more HNO.out HNH.out, below_draws hB _⟩, ?_⟩
            simp [RowKit.intOf]; omega
        · have hst : ((s[a]'ha).toNat : Int) % 32 = (gather l k 1 : Nat) := start2 l k _ HG0.out hc hc'
          have HST := Lib.hid hst
          clear hst
          have HC : Hid (((gather l k k : Nat) : Int) = candL l k) := by rw [gather_cand l k hk1 hk]; exact Lib.hid rfl
          have hd1 : decide ((1 : Int) < (k : Int)) = true := decide_eq_true (by omega)
          have hd3 : ((k : Int) == 3) = false := by rw [beq_eq_false_iff_ne]; omega
          have hd4 : ((k : Int) == 4) = false := by rw [beq_eq_false_iff_ne]; omega
          go_wp2
          go_loop [8, 9] (fun n i => ∃ j : Nat, i = .int .i64 j ∧ n = .int .i64 (gather l k j : Nat) ∧ 1 ≤ j ∧ j ≤ k) (fun _ i => k - (RowKit.intOf i).toNat)
          case atStart => exact ⟨1, rfl, by rw [← HST.out], Nat.le_refl _, hk1⟩
          case round =>
            obtain ⟨j, rfl, rfl, hj1, hjk⟩ := hrel
            by_cases hlt : (j : Int) < (k : Int)
            · have hbi : ((s[a + j]'(by omega)).toNat : Int) < 256 := by have := (s[a + j]'(by omega)).toNat_lt; omega
              have hgl := gather_le l k j (by omega)
              have HGS : Hid (((gather l k (j + 1) : Nat) : Int) = 64 * (gather l k j : Nat) + ((s[a + j]'(by omega)).toNat : Int) % 64) := by
                rw [gather_succ l k j hj1, HG.out j (by omega)]; simp only [Int.natCast_add, Int.natCast_mul, Int.natCast_emod]; exact Lib.hid rfl
              go_wp2_with (go_at_call 47; refine (low_any _ _).mono ?_; rintro e w' ⟨rfl, rfl⟩)
              go_round
              case rel => exact ⟨j + 1, by go_num, by rw [HGS.out], by omega, by omega⟩
              case measure => simp [RowKit.intOf]; omega
            · obtain rfl : j = k := by omega
              have hgl := gather_le l j j (by omega)
              by_cases hp : IsPoint ((gather l j j : Nat) : Int)
              · by_cases he : encodeRune ((gather l j j : Nat) : Int) = l.take j
                · have hby : ∀ w, Calls Try.prog 49 #[.int .i64 ((gather l j j : Nat) : Int)] w fun e w' => ∃ v, e = .returned v ∧ (convert 82 9 v).run Try.prog w' = .ok (.string X) w' ∧ Below w.heap.size w w' := fun w => by
                    rw [← HCE.out _ he]; exact bytes_any _ w hp
                  have HH : Hid (headP l = ((gather l j j : Nat) : Int) ∧ headW l = j) := by
                    have h1 : Hit l j := by
                      unfold Hit
                      rw [← HC.out]
                      exact ⟨hp, he⟩
                    have h2 := head_found l j hk1 hk (by rw [HN.out]; omega) h1
                    rw [← HC.out] at h2
                    exact h2
                  clear he
                  go_wp2
                  refine wp_region_held_drew (S := fun _ => True) (by kernel_rfl) trivial (fun hHeld => ?_)
                  refine wpAnyH_take (i := 0) (oi := { dst := some 61, op := Op.move (Operand.tmp 8), type := 3, pos := "ref.go:49", after := #[], guard := none }) (v := ?_) rfl (by kernel_rfl) (by kernel_rfl) (by kernel_rfl) (fun _ _ _ h => h) (Or.inl ⟨by rfl, ?_⟩) trivial ?_
                  rotate_left
                  · intro w _; go_simp; with_reducible rfl
                  try simp only [Act.put, List.setIfInBounds_toArray, List.set_cons_zero, List.set_cons_succ]
                  refine wpAnyH_ready (rs := [1]) (by kernel_rfl) (by simp) (AllReadyH.cons (o := { dst := some 62, op := Op.call { callee := Callee.value (Operand.func 48), args := #[Operand.tmp 61], argTypes := #[3] }, type := 4, pos := "ref.go:49", after := #[{ on := 0, ground := Ground.data }], guard := none }) rfl (fun K hK => ?_) AllReadyH.nil)
                  rw [if_pos (by rfl)]
                  go_simp
                  (refine (point_true _ _ hp).mono ?_; rintro e w' ⟨rfl, rfl⟩)
                  refine hK.out _ _ trivial (fun _ => ?_)
                  clear hK K
                  try simp only [Act.put, List.setIfInBounds_toArray, List.set_cons_zero, List.set_cons_succ]
                  refine wpAnyH_take (i := 2) (oi := { dst := some 63, op := Op.move (Operand.tmp 62), type := 4, pos := "ref.go:49", after := #[{ on := 1, ground := Ground.data }, { on := 1, ground := Ground.chain }], guard := none }) (v := ?_) rfl (by kernel_rfl) (by kernel_rfl) (by kernel_rfl) (fun _ _ _ h => h) (Or.inl ⟨by rfl, ?_⟩) trivial ?_
                  rotate_left
                  · intro w _; go_simp; with_reducible rfl
                  try simp only [Act.put, List.setIfInBounds_toArray, List.set_cons_zero, List.set_cons_succ]
                  refine wpAnyH_take (i := 3) (oi := { dst := some 64, op := Op.move (Operand.tmp 8), type := 3, pos := "ref.go:49", after := #[{ on := 2, ground := Ground.guard }], guard := some (2, true) }) (v := ?_) rfl (by kernel_rfl) (by kernel_rfl) (by kernel_rfl) (fun _ _ _ h => h) (Or.inl ⟨by rfl, ?_⟩) trivial ?_
                  rotate_left
                  · intro w _; go_simp; with_reducible rfl
                  try simp only [Act.put, List.setIfInBounds_toArray, List.set_cons_zero, List.set_cons_succ]
                  refine wpAnyH_take (i := 6) (oi := { dst := some 67, op := Op.move (Operand.tmp 0), type := 9, pos := "ref.go:49", after := #[{ on := 2, ground := Ground.guard }], guard := some (2, true) }) (v := ?_) rfl (by kernel_rfl) (by kernel_rfl) (by kernel_rfl) (fun _ _ _ h => h) (Or.inl ⟨by rfl, ?_⟩) trivial ?_
                  rotate_left
                  · intro w _; go_simp; with_reducible rfl
                  try simp only [Act.put, List.setIfInBounds_toArray, List.set_cons_zero, List.set_cons_succ]
                  refine wpAnyH_take (i := 7) (oi := { dst := some 68, op := Op.move (Operand.tmp 1), type := 3, pos := "ref.go:49", after := #[{ on := 2, ground := Ground.guard }], guard := some (2, true) }) (v := ?_) rfl (by kernel_rfl) (by kernel_rfl) (by kernel_rfl) (fun _ _ _ h => h) (Or.inl ⟨by rfl, ?_⟩) trivial ?_
                  rotate_left
                  · intro w _; go_simp; with_reducible rfl
                  try simp only [Act.put, List.setIfInBounds_toArray, List.set_cons_zero, List.set_cons_succ]
                  refine wpAnyH_take (i := 8) (oi := { dst := some 69, op := Op.move (Operand.tmp 1), type := 3, pos := "ref.go:49", after := #[{ on := 2, ground := Ground.guard }], guard := some (2, true) }) (v := ?_) rfl (by kernel_rfl) (by kernel_rfl) (by kernel_rfl) (fun _ _ _ h => h) (Or.inl ⟨by rfl, ?_⟩) trivial ?_
                  rotate_left
                  · intro w _; go_simp; with_reducible rfl
                  try simp only [Act.put, List.setIfInBounds_toArray, List.set_cons_zero, List.set_cons_succ]
                  refine wpAnyH_take (i := 9) (oi := { dst := some 70, op := Op.move (Operand.tmp 6), type := 3, pos := "ref.go:49", after := #[{ on := 2, ground := Ground.guard }], guard := some (2, true) }) (v := ?_) rfl (by kernel_rfl) (by kernel_rfl) (by kernel_rfl) (fun _ _ _ h => h) (Or.inl ⟨by rfl, ?_⟩) trivial ?_
                  rotate_left
                  · intro w _; go_simp; with_reducible rfl
                  try simp only [Act.put, List.setIfInBounds_toArray, List.set_cons_zero, List.set_cons_succ]
                  refine wpAnyH_take (i := 10) (oi := { dst := some 71, op := Op.binOp BinOp.add 3 (Operand.tmp 69) (Operand.tmp 70) 3, type := 3, pos := "ref.go:49", after := #[{ on := 8, ground := Ground.data }, { on := 9, ground := Ground.data }, { on := 2, ground := Ground.guard }], guard := some (2, true) }) (v := ?_) rfl (by kernel_rfl) (by kernel_rfl) (by kernel_rfl) (fun _ _ _ h => h) (Or.inl ⟨by rfl, ?_⟩) trivial ?_
                  rotate_left
                  · intro w _; go_simp; with_reducible rfl
                  try simp only [Act.put, List.setIfInBounds_toArray, List.set_cons_zero, List.set_cons_succ]
                  refine wpAnyH_take (i := 11) (oi := { dst := some 72, op := Op.slice 9 (Operand.tmp 67) (some (Operand.tmp 68)) (some (Operand.tmp 71)) none, type := 9, pos := "ref.go:49", after := #[{ on := 6, ground := Ground.data }, { on := 7, ground := Ground.data }, { on := 10, ground := Ground.data }, { on := 2, ground := Ground.guard }], guard := some (2, true) }) (v := ?_) rfl (by kernel_rfl) (by kernel_rfl) (by kernel_rfl) (fun _ _ _ h => h) (Or.inl ⟨by rfl, ?_⟩) trivial ?_
                  rotate_left
                  · intro w _; go_simp; with_reducible rfl
                  try simp only [Act.put, List.setIfInBounds_toArray, List.set_cons_zero, List.set_cons_succ]
                  refine wpAnyH_ready (rs := [4]) (by kernel_rfl) (by simp) (AllReadyH.cons (o := { dst := some 65, op := Op.call { callee := Callee.value (Operand.func 49), args := #[Operand.tmp 64], argTypes := #[3] }, type := 82, pos := "ref.go:49", after := #[{ on := 3, ground := Ground.data }, { on := 2, ground := Ground.chain }, { on := 2, ground := Ground.guard }], guard := some (2, true) }) rfl (fun K hK => ?_) AllReadyH.nil)
                  rw [if_pos (by rfl)]
                  go_simp
                  (refine (hby _).mono ?_; rintro e w1 ⟨v, rfl, hcv, hb⟩)
                  refine hK.out _ _ trivial (fun _ => ?_)
                  clear hK K
                  try simp only [Act.put, List.setIfInBounds_toArray, List.set_cons_zero, List.set_cons_succ]
                  refine wpAnyH_ready (rs := [5]) (by kernel_rfl) (by simp) (AllReadyH.cons (o := { dst := some 66, op := Op.convert 82 9 (Operand.tmp 65), type := 9, pos := "ref.go:49", after := #[{ on := 4, ground := Ground.data }, { on := 2, ground := Ground.guard }], guard := some (2, true) }) rfl (fun K hK => ?_) AllReadyH.nil)
                  rw [if_pos (by rfl)]
                  go_simp
                  refine hK.out _ _ trivial (fun _ => ?_)
                  clear hK K
                  try simp only [Act.put, List.setIfInBounds_toArray, List.set_cons_zero, List.set_cons_succ]
                  refine wpAnyH_take (i := 12) (oi := { dst := some 73, op := Op.binOp BinOp.eql 9 (Operand.tmp 66) (Operand.tmp 72) 9, type := 4, pos := "ref.go:49", after := #[{ on := 5, ground := Ground.data }, { on := 11, ground := Ground.data }, { on := 2, ground := Ground.guard }], guard := some (2, true) }) (v := ?_) rfl (by kernel_rfl) (by kernel_rfl) (by kernel_rfl) (fun _ _ _ h => h) (Or.inl ⟨by rfl, ?_⟩) trivial ?_
                  rotate_left
                  · intro w _; go_simp; with_reducible rfl
                  try simp only [Act.put, List.setIfInBounds_toArray, List.set_cons_zero, List.set_cons_succ]
                  refine wpAnyH_take (i := 13) (oi := { dst := some 74, op := Op.pick (Operand.tmp 63) (Operand.tmp 73) (Operand.const (Value.bool false)), type := 4, pos := "ref.go:49", after := #[{ on := 2, ground := Ground.data }, { on := 12, ground := Ground.data }], guard := none }) (v := ?_) rfl (by kernel_rfl) (by kernel_rfl) (by kernel_rfl) (fun _ _ _ h => h) (Or.inl ⟨by rfl, ?_⟩) trivial ?_
                  rotate_left
                  · intro w _; go_simp; with_reducible rfl
                  try simp only [Act.put, List.setIfInBounds_toArray, List.set_cons_zero, List.set_cons_succ]
                  refine wpAnyH_done (by kernel_rfl) ?_ _
                  go_wp2
                  go_ret2
                  exact ⟨ret2_eq HH.out.1.symm HH.out.2.symm, below_call hB (by assumption)⟩
                · have hne := HCN.out _ he
                  have HNH : Hid (¬ Hit l j) := by
                    unfold Hit
                    rw [← HC.out]
                    exact fun h => he h.2
                  have hby : ∀ w, Calls Try.prog 49 #[.int .i64 ((gather l j j : Nat) : Int)] w (BytesPost ((gather l j j : Nat) : Int) w) := fun w => bytes_any _ w hp
                  clear he
                  go_wp2
                  refine wp_region_held_drew (S := fun _ => True) (by kernel_rfl) trivial (fun hHeld => ?_)
                  refine wpAnyH_take (i := 0) (oi := { dst := some 61, op := Op.move (Operand.tmp 8), type := 3, pos := "ref.go:49", after := #[], guard := none }) (v := ?_) rfl (by kernel_rfl) (by kernel_rfl) (by kernel_rfl) (fun _ _ _ h => h) (Or.inl ⟨by rfl, ?_⟩) trivial ?_
                  rotate_left
                  · intro w _; go_simp; with_reducible rfl
                  try simp only [Act.put, List.setIfInBounds_toArray, List.set_cons_zero, List.set_cons_succ]
                  refine wpAnyH_ready (rs := [1]) (by kernel_rfl) (by simp) (AllReadyH.cons (o := { dst := some 62, op := Op.call { callee := Callee.value (Operand.func 48), args := #[Operand.tmp 61], argTypes := #[3] }, type := 4, pos := "ref.go:49", after := #[{ on := 0, ground := Ground.data }], guard := none }) rfl (fun K hK => ?_) AllReadyH.nil)
                  rw [if_pos (by rfl)]
                  go_simp
                  (refine (point_true _ _ hp).mono ?_; rintro e w' ⟨rfl, rfl⟩)
                  refine hK.out _ _ trivial (fun _ => ?_)
                  clear hK K
                  try simp only [Act.put, List.setIfInBounds_toArray, List.set_cons_zero, List.set_cons_succ]
                  refine wpAnyH_take (i := 2) (oi := { dst := some 63, op := Op.move (Operand.tmp 62), type := 4, pos := "ref.go:49", after := #[{ on := 1, ground := Ground.data }, { on := 1, ground := Ground.chain }], guard := none }) (v := ?_) rfl (by kernel_rfl) (by kernel_rfl) (by kernel_rfl) (fun _ _ _ h => h) (Or.inl ⟨by rfl, ?_⟩) trivial ?_
                  rotate_left
                  · intro w _; go_simp; with_reducible rfl
                  try simp only [Act.put, List.setIfInBounds_toArray, List.set_cons_zero, List.set_cons_succ]
                  refine wpAnyH_take (i := 3) (oi := { dst := some 64, op := Op.move (Operand.tmp 8), type := 3, pos := "ref.go:49", after := #[{ on := 2, ground := Ground.guard }], guard := some (2, true) }) (v := ?_) rfl (by kernel_rfl) (by kernel_rfl) (by kernel_rfl) (fun _ _ _ h => h) (Or.inl ⟨by rfl, ?_⟩) trivial ?_
                  rotate_left
                  · intro w _; go_simp; with_reducible rfl
                  try simp only [Act.put, List.setIfInBounds_toArray, List.set_cons_zero, List.set_cons_succ]
                  refine wpAnyH_take (i := 6) (oi := { dst := some 67, op := Op.move (Operand.tmp 0), type := 9, pos := "ref.go:49", after := #[{ on := 2, ground := Ground.guard }], guard := some (2, true) }) (v := ?_) rfl (by kernel_rfl) (by kernel_rfl) (by kernel_rfl) (fun _ _ _ h => h) (Or.inl ⟨by rfl, ?_⟩) trivial ?_
                  rotate_left
                  · intro w _; go_simp; with_reducible rfl
                  try simp only [Act.put, List.setIfInBounds_toArray, List.set_cons_zero, List.set_cons_succ]
                  refine wpAnyH_take (i := 7) (oi := { dst := some 68, op := Op.move (Operand.tmp 1), type := 3, pos := "ref.go:49", after := #[{ on := 2, ground := Ground.guard }], guard := some (2, true) }) (v := ?_) rfl (by kernel_rfl) (by kernel_rfl) (by kernel_rfl) (fun _ _ _ h => h) (Or.inl ⟨by rfl, ?_⟩) trivial ?_
                  rotate_left
                  · intro w _; go_simp; with_reducible rfl
                  try simp only [Act.put, List.setIfInBounds_toArray, List.set_cons_zero, List.set_cons_succ]
                  refine wpAnyH_take (i := 8) (oi := { dst := some 69, op := Op.move (Operand.tmp 1), type := 3, pos := "ref.go:49", after := #[{ on := 2, ground := Ground.guard }], guard := some (2, true) }) (v := ?_) rfl (by kernel_rfl) (by kernel_rfl) (by kernel_rfl) (fun _ _ _ h => h) (Or.inl ⟨by rfl, ?_⟩) trivial ?_
                  rotate_left
                  · intro w _; go_simp; with_reducible rfl
                  try simp only [Act.put, List.setIfInBounds_toArray, List.set_cons_zero, List.set_cons_succ]
                  refine wpAnyH_take (i := 9) (oi := { dst := some 70, op := Op.move (Operand.tmp 6), type := 3, pos := "ref.go:49", after := #[{ on := 2, ground := Ground.guard }], guard := some (2, true) }) (v := ?_) rfl (by kernel_rfl) (by kernel_rfl) (by kernel_rfl) (fun _ _ _ h => h) (Or.inl ⟨by rfl, ?_⟩) trivial ?_
                  rotate_left
                  · intro w _; go_simp; with_reducible rfl
                  try simp only [Act.put, List.setIfInBounds_toArray, List.set_cons_zero, List.set_cons_succ]
                  refine wpAnyH_take (i := 10) (oi := { dst := some 71, op := Op.binOp BinOp.add 3 (Operand.tmp 69) (Operand.tmp 70) 3, type := 3, pos := "ref.go:49", after := #[{ on := 8, ground := Ground.data }, { on := 9, ground := Ground.data }, { on := 2, ground := Ground.guard }], guard := some (2, true) }) (v := ?_) rfl (by kernel_rfl) (by kernel_rfl) (by kernel_rfl) (fun _ _ _ h => h) (Or.inl ⟨by rfl, ?_⟩) trivial ?_
                  rotate_left
                  · intro w _; go_simp; with_reducible rfl
                  try simp only [Act.put, List.setIfInBounds_toArray, List.set_cons_zero, List.set_cons_succ]
                  refine wpAnyH_take (i := 11) (oi := { dst := some 72, op := Op.slice 9 (Operand.tmp 67) (some (Operand.tmp 68)) (some (Operand.tmp 71)) none, type := 9, pos := "ref.go:49", after := #[{ on := 6, ground := Ground.data }, { on := 7, ground := Ground.data }, { on := 10, ground := Ground.data }, { on := 2, ground := Ground.guard }], guard := some (2, true) }) (v := ?_) rfl (by kernel_rfl) (by kernel_rfl) (by kernel_rfl) (fun _ _ _ h => h) (Or.inl ⟨by rfl, ?_⟩) trivial ?_
                  rotate_left
                  · intro w _; go_simp; with_reducible rfl
                  try simp only [Act.put, List.setIfInBounds_toArray, List.set_cons_zero, List.set_cons_succ]
                  refine wpAnyH_ready (rs := [4]) (by kernel_rfl) (by simp) (AllReadyH.cons (o := { dst := some 65, op := Op.call { callee := Callee.value (Operand.func 49), args := #[Operand.tmp 64], argTypes := #[3] }, type := 82, pos := "ref.go:49", after := #[{ on := 3, ground := Ground.data }, { on := 2, ground := Ground.chain }, { on := 2, ground := Ground.guard }], guard := some (2, true) }) rfl (fun K hK => ?_) AllReadyH.nil)
                  rw [if_pos (by rfl)]
                  go_simp
                  (refine (hby _).mono ?_; rintro e w1 ⟨v, rfl, hcv, hb⟩)
                  refine hK.out _ _ trivial (fun _ => ?_)
                  clear hK K
                  try simp only [Act.put, List.setIfInBounds_toArray, List.set_cons_zero, List.set_cons_succ]
                  refine wpAnyH_ready (rs := [5]) (by kernel_rfl) (by simp) (AllReadyH.cons (o := { dst := some 66, op := Op.convert 82 9 (Operand.tmp 65), type := 9, pos := "ref.go:49", after := #[{ on := 4, ground := Ground.data }, { on := 2, ground := Ground.guard }], guard := some (2, true) }) rfl (fun K hK => ?_) AllReadyH.nil)
                  rw [if_pos (by rfl)]
                  go_simp
                  refine hK.out _ _ trivial (fun _ => ?_)
                  clear hK K
                  try simp only [Act.put, List.setIfInBounds_toArray, List.set_cons_zero, List.set_cons_succ]
                  refine wpAnyH_take (i := 12) (oi := { dst := some 73, op := Op.binOp BinOp.eql 9 (Operand.tmp 66) (Operand.tmp 72) 9, type := 4, pos := "ref.go:49", after := #[{ on := 5, ground := Ground.data }, { on := 11, ground := Ground.data }, { on := 2, ground := Ground.guard }], guard := some (2, true) }) (v := ?_) rfl (by kernel_rfl) (by kernel_rfl) (by kernel_rfl) (fun _ _ _ h => h) (Or.inl ⟨by rfl, ?_⟩) trivial ?_
                  rotate_left
                  · intro w _; go_simp; with_reducible rfl
                  try simp only [Act.put, List.setIfInBounds_toArray, List.set_cons_zero, List.set_cons_succ]
                  refine wpAnyH_take (i := 13) (oi := { dst := some 74, op := Op.pick (Operand.tmp 63) (Operand.tmp 73) (Operand.const (Value.bool false)), type := 4, pos := "ref.go:49", after := #[{ on := 2, ground := Ground.data }, { on := 12, ground := Ground.data }], guard := none }) (v := ?_) rfl (by kernel_rfl) (by kernel_rfl) (by kernel_rfl) (fun _ _ _ h => h) (Or.inl ⟨by rfl, ?_⟩) trivial ?_
                  rotate_left
                  · intro w _; go_simp; with_reducible rfl
                  try simp only [Act.put, List.setIfInBounds_toArray, List.set_cons_zero, List.set_cons_succ]
                  refine wpAnyH_done (by kernel_rfl) ?_ _
                  go_wp2
                  refine ⟨⟨j + 1, by go_num, by omega, by omega, Or.inr (by omega), no_more HNO.out HNH.out, below_call hB (by assumption)⟩, ?_⟩
                  simp [RowKit.intOf]; omega
              · have HNH : Hid (¬ Hit l j) := by
                  unfold Hit
                  rw [← HC.out]
                  exact fun h => hp h.1
                go_wp2
                go_quiet ((go_at_call 48; exact Calls.quiet_of_same (point_false _ _ hp)))
                go_wp2
                refine ⟨⟨j + 1, by go_num, by omega, by omega, Or.inr (by omega), no_more HNO.out HNH.out, below_draws hB _⟩, ?_⟩
                simp [RowKit.intOf]; omega
        · have hst : ((s[a]'ha).toNat : Int) % 16 = (gather l k 1 : Nat) := start3 l k _ HG0.out hc hc'
          have HST := Lib.hid hst
          clear hst
          have HC : Hid (((gather l k k : Nat) : Int) = candL l k) := by rw [gather_cand l k hk1 hk]; exact Lib.hid rfl
          have hd1 : decide ((1 : Int) < (k : Int)) = true := decide_eq_true (by omega)
          have hd3 : ((k : Int) == 3) = true := by rw [beq_iff_eq]; omega
          have hd4 : ((k : Int) == 4) = false := by rw [beq_eq_false_iff_ne]; omega
          go_wp2
          go_loop [8, 9] (fun n i => ∃ j : Nat, i = .int .i64 j ∧ n = .int .i64 (gather l k j : Nat) ∧ 1 ≤ j ∧ j ≤ k) (fun _ i => k - (RowKit.intOf i).toNat)
          case atStart => exact ⟨1, rfl, by rw [← HST.out], Nat.le_refl _, hk1⟩
          case round =>
            obtain ⟨j, rfl, rfl, hj1, hjk⟩ := hrel
            by_cases hlt : (j : Int) < (k : Int)
            · have hbi : ((s[a + j]'(by omega)).toNat : Int) < 256 := by have := (s[a + j]'(by omega)).toNat_lt; omega
              have hgl := gather_le l k j (by omega)
              have HGS : Hid (((gather l k (j + 1) : Nat) : Int) = 64 * (gather l k j : Nat) + ((s[a + j]'(by omega)).toNat : Int) % 64) := by
                rw [gather_succ l k j hj1, HG.out j (by omega)]; simp only [Int.natCast_add, Int.natCast_mul, Int.natCast_emod]; exact Lib.hid rfl
              go_wp2_with (go_at_call 47; refine (low_any _ _).mono ?_; rintro e w' ⟨rfl, rfl⟩)
              go_round
              case rel => exact ⟨j + 1, by go_num, by rw [HGS.out], by omega, by omega⟩
              case measure => simp [RowKit.intOf]; omega
            · obtain rfl : j = k := by omega
              have hgl := gather_le l j j (by omega)
              by_cases hp : IsPoint ((gather l j j : Nat) : Int)
              · by_cases he : encodeRune ((gather l j j : Nat) : Int) = l.take j
                · have hby : ∀ w, Calls Try.prog 49 #[.int .i64 ((gather l j j : Nat) : Int)] w fun e w' => ∃ v, e = .returned v ∧ (convert 82 9 v).run Try.prog w' = .ok (.string X) w' ∧ Below w.heap.size w w' := fun w => by
                    rw [← HCE.out _ he]; exact bytes_any _ w hp
                  have HH : Hid (headP l = ((gather l j j : Nat) : Int) ∧ headW l = j) := by
                    have h1 : Hit l j := by
                      unfold Hit
                      rw [← HC.out]
                      exact ⟨hp, he⟩
                    have h2 := head_found l j hk1 hk (by rw [HN.out]; omega) h1
                    rw [← HC.out] at h2
                    exact h2
                  clear he
                  go_wp2
                  refine wp_region_held_drew (S := fun _ => True) (by kernel_rfl) trivial (fun hHeld => ?_)
                  refine wpAnyH_take (i := 0) (oi := { dst := some 61, op := Op.move (Operand.tmp 8), type := 3, pos := "ref.go:49", after := #[], guard := none }) (v := ?_) rfl (by kernel_rfl) (by kernel_rfl) (by kernel_rfl) (fun _ _ _ h => h) (Or.inl ⟨by rfl, ?_⟩) trivial ?_
                  rotate_left
                  · intro w _; go_simp; with_reducible rfl
                  try simp only [Act.put, List.setIfInBounds_toArray, List.set_cons_zero, List.set_cons_succ]
                  refine wpAnyH_ready (rs := [1]) (by kernel_rfl) (by simp) (AllReadyH.cons (o := { dst := some 62, op := Op.call { callee := Callee.value (Operand.func 48), args := #[Operand.tmp 61], argTypes := #[3] }, type := 4, pos := "ref.go:49", after := #[{ on := 0, ground := Ground.data }], guard := none }) rfl (fun K hK => ?_) AllReadyH.nil)
                  rw [if_pos (by rfl)]
                  go_simp
                  (refine (point_true _ _ hp).mono ?_; rintro e w' ⟨rfl, rfl⟩)
                  refine hK.out _ _ trivial (fun _ => ?_)
                  clear hK K
                  try simp only [Act.put, List.setIfInBounds_toArray, List.set_cons_zero, List.set_cons_succ]
                  refine wpAnyH_take (i := 2) (oi := { dst := some 63, op := Op.move (Operand.tmp 62), type := 4, pos := "ref.go:49", after := #[{ on := 1, ground := Ground.data }, { on := 1, ground := Ground.chain }], guard := none }) (v := ?_) rfl (by kernel_rfl) (by kernel_rfl) (by kernel_rfl) (fun _ _ _ h => h) (Or.inl ⟨by rfl, ?_⟩) trivial ?_
                  rotate_left
                  · intro w _; go_simp; with_reducible rfl
                  try simp only [Act.put, List.setIfInBounds_toArray, List.set_cons_zero, List.set_cons_succ]
                  refine wpAnyH_take (i := 3) (oi := { dst := some 64, op := Op.move (Operand.tmp 8), type := 3, pos := "ref.go:49", after := #[{ on := 2, ground := Ground.guard }], guard := some (2, true) }) (v := ?_) rfl (by kernel_rfl) (by kernel_rfl) (by kernel_rfl) (fun _ _ _ h => h) (Or.inl ⟨by rfl, ?_⟩) trivial ?_
                  rotate_left
                  · intro w _; go_simp; with_reducible rfl
                  try simp only [Act.put, List.setIfInBounds_toArray, List.set_cons_zero, List.set_cons_succ]
                  refine wpAnyH_take (i := 6) (oi := { dst := some 67, op := Op.move (Operand.tmp 0), type := 9, pos := "ref.go:49", after := #[{ on := 2, ground := Ground.guard }], guard := some (2, true) }) (v := ?_) rfl (by kernel_rfl) (by kernel_rfl) (by kernel_rfl) (fun _ _ _ h => h) (Or.inl ⟨by rfl, ?_⟩) trivial ?_
                  rotate_left
                  · intro w _; go_simp; with_reducible rfl
                  try simp only [Act.put, List.setIfInBounds_toArray, List.set_cons_zero, List.set_cons_succ]
                  refine wpAnyH_take (i := 7) (oi := { dst := some 68, op := Op.move (Operand.tmp 1), type := 3, pos := "ref.go:49", after := #[{ on := 2, ground := Ground.guard }], guard := some (2, true) }) (v := ?_) rfl (by kernel_rfl) (by kernel_rfl) (by kernel_rfl) (fun _ _ _ h => h) (Or.inl ⟨by rfl, ?_⟩) trivial ?_
                  rotate_left
                  · intro w _; go_simp; with_reducible rfl
                  try simp only [Act.put, List.setIfInBounds_toArray, List.set_cons_zero, List.set_cons_succ]
                  refine wpAnyH_take (i := 8) (oi := { dst := some 69, op := Op.move (Operand.tmp 1), type := 3, pos := "ref.go:49", after := #[{ on := 2, ground := Ground.guard }], guard := some (2, true) }) (v := ?_) rfl (by kernel_rfl) (by kernel_rfl) (by kernel_rfl) (fun _ _ _ h => h) (Or.inl ⟨by rfl, ?_⟩) trivial ?_
                  rotate_left
                  · intro w _; go_simp; with_reducible rfl
                  try simp only [Act.put, List.setIfInBounds_toArray, List.set_cons_zero, List.set_cons_succ]
                  refine wpAnyH_take (i := 9) (oi := { dst := some 70, op := Op.move (Operand.tmp 6), type := 3, pos := "ref.go:49", after := #[{ on := 2, ground := Ground.guard }], guard := some (2, true) }) (v := ?_) rfl (by kernel_rfl) (by kernel_rfl) (by kernel_rfl) (fun _ _ _ h => h) (Or.inl ⟨by rfl, ?_⟩) trivial ?_
                  rotate_left
                  · intro w _; go_simp; with_reducible rfl
                  try simp only [Act.put, List.setIfInBounds_toArray, List.set_cons_zero, List.set_cons_succ]
                  refine wpAnyH_take (i := 10) (oi := { dst := some 71, op := Op.binOp BinOp.add 3 (Operand.tmp 69) (Operand.tmp 70) 3, type := 3, pos := "ref.go:49", after := #[{ on := 8, ground := Ground.data }, { on := 9, ground := Ground.data }, { on := 2, ground := Ground.guard }], guard := some (2, true) }) (v := ?_) rfl (by kernel_rfl) (by kernel_rfl) (by kernel_rfl) (fun _ _ _ h => h) (Or.inl ⟨by rfl, ?_⟩) trivial ?_
                  rotate_left
                  · intro w _; go_simp; with_reducible rfl
                  try simp only [Act.put, List.setIfInBounds_toArray, List.set_cons_zero, List.set_cons_succ]
                  refine wpAnyH_take (i := 11) (oi := { dst := some 72, op := Op.slice 9 (Operand.tmp 67) (some (Operand.tmp 68)) (some (Operand.tmp 71)) none, type := 9, pos := "ref.go:49", after := #[{ on := 6, ground := Ground.data }, { on := 7, ground := Ground.data }, { on := 10, ground := Ground.data }, { on := 2, ground := Ground.guard }], guard := some (2, true) }) (v := ?_) rfl (by kernel_rfl) (by kernel_rfl) (by kernel_rfl) (fun _ _ _ h => h) (Or.inl ⟨by rfl, ?_⟩) trivial ?_
                  rotate_left
                  · intro w _; go_simp; with_reducible rfl
                  try simp only [Act.put, List.setIfInBounds_toArray, List.set_cons_zero, List.set_cons_succ]
                  refine wpAnyH_ready (rs := [4]) (by kernel_rfl) (by simp) (AllReadyH.cons (o := { dst := some 65, op := Op.call { callee := Callee.value (Operand.func 49), args := #[Operand.tmp 64], argTypes := #[3] }, type := 82, pos := "ref.go:49", after := #[{ on := 3, ground := Ground.data }, { on := 2, ground := Ground.chain }, { on := 2, ground := Ground.guard }], guard := some (2, true) }) rfl (fun K hK => ?_) AllReadyH.nil)
                  rw [if_pos (by rfl)]
                  go_simp
                  (refine (hby _).mono ?_; rintro e w1 ⟨v, rfl, hcv, hb⟩)
                  refine hK.out _ _ trivial (fun _ => ?_)
                  clear hK K
                  try simp only [Act.put, List.setIfInBounds_toArray, List.set_cons_zero, List.set_cons_succ]
                  refine wpAnyH_ready (rs := [5]) (by kernel_rfl) (by simp) (AllReadyH.cons (o := { dst := some 66, op := Op.convert 82 9 (Operand.tmp 65), type := 9, pos := "ref.go:49", after := #[{ on := 4, ground := Ground.data }, { on := 2, ground := Ground.guard }], guard := some (2, true) }) rfl (fun K hK => ?_) AllReadyH.nil)
                  rw [if_pos (by rfl)]
                  go_simp
                  refine hK.out _ _ trivial (fun _ => ?_)
                  clear hK K
                  try simp only [Act.put, List.setIfInBounds_toArray, List.set_cons_zero, List.set_cons_succ]
                  refine wpAnyH_take (i := 12) (oi := { dst := some 73, op := Op.binOp BinOp.eql 9 (Operand.tmp 66) (Operand.tmp 72) 9, type := 4, pos := "ref.go:49", after := #[{ on := 5, ground := Ground.data }, { on := 11, ground := Ground.data }, { on := 2, ground := Ground.guard }], guard := some (2, true) }) (v := ?_) rfl (by kernel_rfl) (by kernel_rfl) (by kernel_rfl) (fun _ _ _ h => h) (Or.inl ⟨by rfl, ?_⟩) trivial ?_
                  rotate_left
                  · intro w _; go_simp; with_reducible rfl
                  try simp only [Act.put, List.setIfInBounds_toArray, List.set_cons_zero, List.set_cons_succ]
                  refine wpAnyH_take (i := 13) (oi := { dst := some 74, op := Op.pick (Operand.tmp 63) (Operand.tmp 73) (Operand.const (Value.bool false)), type := 4, pos := "ref.go:49", after := #[{ on := 2, ground := Ground.data }, { on := 12, ground := Ground.data }], guard := none }) (v := ?_) rfl (by kernel_rfl) (by kernel_rfl) (by kernel_rfl) (fun _ _ _ h => h) (Or.inl ⟨by rfl, ?_⟩) trivial ?_
                  rotate_left
                  · intro w _; go_simp; with_reducible rfl
                  try simp only [Act.put, List.setIfInBounds_toArray, List.set_cons_zero, List.set_cons_succ]
                  refine wpAnyH_done (by kernel_rfl) ?_ _
                  go_wp2
                  go_ret2
                  exact ⟨ret2_eq HH.out.1.symm HH.out.2.symm, below_call hB (by assumption)⟩
                · have hne := HCN.out _ he
                  have HNH : Hid (¬ Hit l j) := by
                    unfold Hit
                    rw [← HC.out]
                    exact fun h => he h.2
                  have hby : ∀ w, Calls Try.prog 49 #[.int .i64 ((gather l j j : Nat) : Int)] w (BytesPost ((gather l j j : Nat) : Int) w) := fun w => bytes_any _ w hp
                  clear he
                  go_wp2
                  refine wp_region_held_drew (S := fun _ => True) (by kernel_rfl) trivial (fun hHeld => ?_)
                  refine wpAnyH_take (i := 0) (oi := { dst := some 61, op := Op.move (Operand.tmp 8), type := 3, pos := "ref.go:49", after := #[], guard := none }) (v := ?_) rfl (by kernel_rfl) (by kernel_rfl) (by kernel_rfl) (fun _ _ _ h => h) (Or.inl ⟨by rfl, ?_⟩) trivial ?_
                  rotate_left
                  · intro w _; go_simp; with_reducible rfl
                  try simp only [Act.put, List.setIfInBounds_toArray, List.set_cons_zero, List.set_cons_succ]
                  refine wpAnyH_ready (rs := [1]) (by kernel_rfl) (by simp) (AllReadyH.cons (o := { dst := some 62, op := Op.call { callee := Callee.value (Operand.func 48), args := #[Operand.tmp 61], argTypes := #[3] }, type := 4, pos := "ref.go:49", after := #[{ on := 0, ground := Ground.data }], guard := none }) rfl (fun K hK => ?_) AllReadyH.nil)
                  rw [if_pos (by rfl)]
                  go_simp
                  (refine (point_true _ _ hp).mono ?_; rintro e w' ⟨rfl, rfl⟩)
                  refine hK.out _ _ trivial (fun _ => ?_)
                  clear hK K
                  try simp only [Act.put, List.setIfInBounds_toArray, List.set_cons_zero, List.set_cons_succ]
                  refine wpAnyH_take (i := 2) (oi := { dst := some 63, op := Op.move (Operand.tmp 62), type := 4, pos := "ref.go:49", after := #[{ on := 1, ground := Ground.data }, { on := 1, ground := Ground.chain }], guard := none }) (v := ?_) rfl (by kernel_rfl) (by kernel_rfl) (by kernel_rfl) (fun _ _ _ h => h) (Or.inl ⟨by rfl, ?_⟩) trivial ?_
                  rotate_left
                  · intro w _; go_simp; with_reducible rfl
                  try simp only [Act.put, List.setIfInBounds_toArray, List.set_cons_zero, List.set_cons_succ]
                  refine wpAnyH_take (i := 3) (oi := { dst := some 64, op := Op.move (Operand.tmp 8), type := 3, pos := "ref.go:49", after := #[{ on := 2, ground := Ground.guard }], guard := some (2, true) }) (v := ?_) rfl (by kernel_rfl) (by kernel_rfl) (by kernel_rfl) (fun _ _ _ h => h) (Or.inl ⟨by rfl, ?_⟩) trivial ?_
                  rotate_left
                  · intro w _; go_simp; with_reducible rfl
                  try simp only [Act.put, List.setIfInBounds_toArray, List.set_cons_zero, List.set_cons_succ]
                  refine wpAnyH_take (i := 6) (oi := { dst := some 67, op := Op.move (Operand.tmp 0), type := 9, pos := "ref.go:49", after := #[{ on := 2, ground := Ground.guard }], guard := some (2, true) }) (v := ?_) rfl (by kernel_rfl) (by kernel_rfl) (by kernel_rfl) (fun _ _ _ h => h) (Or.inl ⟨by rfl, ?_⟩) trivial ?_
                  rotate_left
                  · intro w _; go_simp; with_reducible rfl
                  try simp only [Act.put, List.setIfInBounds_toArray, List.set_cons_zero, List.set_cons_succ]
                  refine wpAnyH_take (i := 7) (oi := { dst := some 68, op := Op.move (Operand.tmp 1), type := 3, pos := "ref.go:49", after := #[{ on := 2, ground := Ground.guard }], guard := some (2, true) }) (v := ?_) rfl (by kernel_rfl) (by kernel_rfl) (by kernel_rfl) (fun _ _ _ h => h) (Or.inl ⟨by rfl, ?_⟩) trivial ?_
                  rotate_left
                  · intro w _; go_simp; with_reducible rfl
                  try simp only [Act.put, List.setIfInBounds_toArray, List.set_cons_zero, List.set_cons_succ]
                  refine wpAnyH_take (i := 8) (oi := { dst := some 69, op := Op.move (Operand.tmp 1), type := 3, pos := "ref.go:49", after := #[{ on := 2, ground := Ground.guard }], guard := some (2, true) }) (v := ?_) rfl (by kernel_rfl) (by kernel_rfl) (by kernel_rfl) (fun _ _ _ h => h) (Or.inl ⟨by rfl, ?_⟩) trivial ?_
                  rotate_left
                  · intro w _; go_simp; with_reducible rfl
                  try simp only [Act.put, List.setIfInBounds_toArray, List.set_cons_zero, List.set_cons_succ]
                  refine wpAnyH_take (i := 9) (oi := { dst := some 70, op := Op.move (Operand.tmp 6), type := 3, pos := "ref.go:49", after := #[{ on := 2, ground := Ground.guard }], guard := some (2, true) }) (v := ?_) rfl (by kernel_rfl) (by kernel_rfl) (by kernel_rfl) (fun _ _ _ h => h) (Or.inl ⟨by rfl, ?_⟩) trivial ?_
                  rotate_left
                  · intro w _; go_simp; with_reducible rfl
                  try simp only [Act.put, List.setIfInBounds_toArray, List.set_cons_zero, List.set_cons_succ]
                  refine wpAnyH_take (i := 10) (oi := { dst := some 71, op := Op.binOp BinOp.add 3 (Operand.tmp 69) (Operand.tmp 70) 3, type := 3, pos := "ref.go:49", after := #[{ on := 8, ground := Ground.data }, { on := 9, ground := Ground.data }, { on := 2, ground := Ground.guard }], guard := some (2, true) }) (v := ?_) rfl (by kernel_rfl) (by kernel_rfl) (by kernel_rfl) (fun _ _ _ h => h) (Or.inl ⟨by rfl, ?_⟩) trivial ?_
                  rotate_left
                  · intro w _; go_simp; with_reducible rfl
                  try simp only [Act.put, List.setIfInBounds_toArray, List.set_cons_zero, List.set_cons_succ]
                  refine wpAnyH_take (i := 11) (oi := { dst := some 72, op := Op.slice 9 (Operand.tmp 67) (some (Operand.tmp 68)) (some (Operand.tmp 71)) none, type := 9, pos := "ref.go:49", after := #[{ on := 6, ground := Ground.data }, { on := 7, ground := Ground.data }, { on := 10, ground := Ground.data }, { on := 2, ground := Ground.guard }], guard := some (2, true) }) (v := ?_) rfl (by kernel_rfl) (by kernel_rfl) (by kernel_rfl) (fun _ _ _ h => h) (Or.inl ⟨by rfl, ?_⟩) trivial ?_
                  rotate_left
                  · intro w _; go_simp; with_reducible rfl
                  try simp only [Act.put, List.setIfInBounds_toArray, List.set_cons_zero, List.set_cons_succ]
                  refine wpAnyH_ready (rs := [4]) (by kernel_rfl) (by simp) (AllReadyH.cons (o := { dst := some 65, op := Op.call { callee := Callee.value (Operand.func 49), args := #[Operand.tmp 64], argTypes := #[3] }, type := 82, pos := "ref.go:49", after := #[{ on := 3, ground := Ground.data }, { on := 2, ground := Ground.chain }, { on := 2, ground := Ground.guard }], guard := some (2, true) }) rfl (fun K hK => ?_) AllReadyH.nil)
                  rw [if_pos (by rfl)]
                  go_simp
                  (refine (hby _).mono ?_; rintro e w1 ⟨v, rfl, hcv, hb⟩)
                  refine hK.out _ _ trivial (fun _ => ?_)
                  clear hK K
                  try simp only [Act.put, List.setIfInBounds_toArray, List.set_cons_zero, List.set_cons_succ]
                  refine wpAnyH_ready (rs := [5]) (by kernel_rfl) (by simp) (AllReadyH.cons (o := { dst := some 66, op := Op.convert 82 9 (Operand.tmp 65), type := 9, pos := "ref.go:49", after := #[{ on := 4, ground := Ground.data }, { on := 2, ground := Ground.guard }], guard := some (2, true) }) rfl (fun K hK => ?_) AllReadyH.nil)
                  rw [if_pos (by rfl)]
                  go_simp
                  refine hK.out _ _ trivial (fun _ => ?_)
                  clear hK K
                  try simp only [Act.put, List.setIfInBounds_toArray, List.set_cons_zero, List.set_cons_succ]
                  refine wpAnyH_take (i := 12) (oi := { dst := some 73, op := Op.binOp BinOp.eql 9 (Operand.tmp 66) (Operand.tmp 72) 9, type := 4, pos := "ref.go:49", after := #[{ on := 5, ground := Ground.data }, { on := 11, ground := Ground.data }, { on := 2, ground := Ground.guard }], guard := some (2, true) }) (v := ?_) rfl (by kernel_rfl) (by kernel_rfl) (by kernel_rfl) (fun _ _ _ h => h) (Or.inl ⟨by rfl, ?_⟩) trivial ?_
                  rotate_left
                  · intro w _; go_simp; with_reducible rfl
                  try simp only [Act.put, List.setIfInBounds_toArray, List.set_cons_zero, List.set_cons_succ]
                  refine wpAnyH_take (i := 13) (oi := { dst := some 74, op := Op.pick (Operand.tmp 63) (Operand.tmp 73) (Operand.const (Value.bool false)), type := 4, pos := "ref.go:49", after := #[{ on := 2, ground := Ground.data }, { on := 12, ground := Ground.data }], guard := none }) (v := ?_) rfl (by kernel_rfl) (by kernel_rfl) (by kernel_rfl) (fun _ _ _ h => h) (Or.inl ⟨by rfl, ?_⟩) trivial ?_
                  rotate_left
                  · intro w _; go_simp; with_reducible rfl
                  try simp only [Act.put, List.setIfInBounds_toArray, List.set_cons_zero, List.set_cons_succ]
                  refine wpAnyH_done (by kernel_rfl) ?_ _
                  go_wp2
                  refine ⟨⟨j + 1, by go_num, by omega, by omega, Or.inr (by omega), no_more HNO.out HNH.out, below_call hB (by assumption)⟩, ?_⟩
                  simp [RowKit.intOf]; omega
              · have HNH : Hid (¬ Hit l j) := by
                  unfold Hit
                  rw [← HC.out]
                  exact fun h => hp h.1
                go_wp2
                go_quiet ((go_at_call 48; exact Calls.quiet_of_same (point_false _ _ hp)))
                go_wp2
                refine ⟨⟨j + 1, by go_num, by omega, by omega, Or.inr (by omega), no_more HNO.out HNH.out, below_draws hB _⟩, ?_⟩
                simp [RowKit.intOf]; omega
        · have hst : ((s[a]'ha).toNat : Int) % 8 = (gather l k 1 : Nat) := start4 l k _ HG0.out hc hk
          have HST := Lib.hid hst
          clear hst
          have HC : Hid (((gather l k k : Nat) : Int) = candL l k) := by rw [gather_cand l k hk1 hk]; exact Lib.hid rfl
          have hd1 : decide ((1 : Int) < (k : Int)) = true := decide_eq_true (by omega)
          have hd3 : ((k : Int) == 3) = false := by rw [beq_eq_false_iff_ne]; omega
          have hd4 : ((k : Int) == 4) = true := by rw [beq_iff_eq]; omega
          go_wp2
          go_loop [8, 9] (fun n i => ∃ j : Nat, i = .int .i64 j ∧ n = .int .i64 (gather l k j : Nat) ∧ 1 ≤ j ∧ j ≤ k) (fun _ i => k - (RowKit.intOf i).toNat)
          case atStart => exact ⟨1, rfl, by rw [← HST.out], Nat.le_refl _, hk1⟩
          case round =>
            obtain ⟨j, rfl, rfl, hj1, hjk⟩ := hrel
            by_cases hlt : (j : Int) < (k : Int)
            · have hbi : ((s[a + j]'(by omega)).toNat : Int) < 256 := by have := (s[a + j]'(by omega)).toNat_lt; omega
              have hgl := gather_le l k j (by omega)
              have HGS : Hid (((gather l k (j + 1) : Nat) : Int) = 64 * (gather l k j : Nat) + ((s[a + j]'(by omega)).toNat : Int) % 64) := by
                rw [gather_succ l k j hj1, HG.out j (by omega)]; simp only [Int.natCast_add, Int.natCast_mul, Int.natCast_emod]; exact Lib.hid rfl
              go_wp2_with (go_at_call 47; refine (low_any _ _).mono ?_; rintro e w' ⟨rfl, rfl⟩)
              go_round
              case rel => exact ⟨j + 1, by go_num, by rw [HGS.out], by omega, by omega⟩
              case measure => simp [RowKit.intOf]; omega
            · obtain rfl : j = k := by omega
              have hgl := gather_le l j j (by omega)
              by_cases hp : IsPoint ((gather l j j : Nat) : Int)
              · by_cases he : encodeRune ((gather l j j : Nat) : Int) = l.take j
                · have hby : ∀ w, Calls Try.prog 49 #[.int .i64 ((gather l j j : Nat) : Int)] w fun e w' => ∃ v, e = .returned v ∧ (convert 82 9 v).run Try.prog w' = .ok (.string X) w' ∧ Below w.heap.size w w' := fun w => by
                    rw [← HCE.out _ he]; exact bytes_any _ w hp
                  have HH : Hid (headP l = ((gather l j j : Nat) : Int) ∧ headW l = j) := by
                    have h1 : Hit l j := by
                      unfold Hit
                      rw [← HC.out]
                      exact ⟨hp, he⟩
                    have h2 := head_found l j hk1 hk (by rw [HN.out]; omega) h1
                    rw [← HC.out] at h2
                    exact h2
                  clear he
                  go_wp2
                  refine wp_region_held_drew (S := fun _ => True) (by kernel_rfl) trivial (fun hHeld => ?_)
                  refine wpAnyH_take (i := 0) (oi := { dst := some 61, op := Op.move (Operand.tmp 8), type := 3, pos := "ref.go:49", after := #[], guard := none }) (v := ?_) rfl (by kernel_rfl) (by kernel_rfl) (by kernel_rfl) (fun _ _ _ h => h) (Or.inl ⟨by rfl, ?_⟩) trivial ?_
                  rotate_left
                  · intro w _; go_simp; with_reducible rfl
                  try simp only [Act.put, List.setIfInBounds_toArray, List.set_cons_zero, List.set_cons_succ]
                  refine wpAnyH_ready (rs := [1]) (by kernel_rfl) (by simp) (AllReadyH.cons (o := { dst := some 62, op := Op.call { callee := Callee.value (Operand.func 48), args := #[Operand.tmp 61], argTypes := #[3] }, type := 4, pos := "ref.go:49", after := #[{ on := 0, ground := Ground.data }], guard := none }) rfl (fun K hK => ?_) AllReadyH.nil)
                  rw [if_pos (by rfl)]
                  go_simp
                  (refine (point_true _ _ hp).mono ?_; rintro e w' ⟨rfl, rfl⟩)
                  refine hK.out _ _ trivial (fun _ => ?_)
                  clear hK K
                  try simp only [Act.put, List.setIfInBounds_toArray, List.set_cons_zero, List.set_cons_succ]
                  refine wpAnyH_take (i := 2) (oi := { dst := some 63, op := Op.move (Operand.tmp 62), type := 4, pos := "ref.go:49", after := #[{ on := 1, ground := Ground.data }, { on := 1, ground := Ground.chain }], guard := none }) (v := ?_) rfl (by kernel_rfl) (by kernel_rfl) (by kernel_rfl) (fun _ _ _ h => h) (Or.inl ⟨by rfl, ?_⟩) trivial ?_
                  rotate_left
                  · intro w _; go_simp; with_reducible rfl
                  try simp only [Act.put, List.setIfInBounds_toArray, List.set_cons_zero, List.set_cons_succ]
                  refine wpAnyH_take (i := 3) (oi := { dst := some 64, op := Op.move (Operand.tmp 8), type := 3, pos := "ref.go:49", after := #[{ on := 2, ground := Ground.guard }], guard := some (2, true) }) (v := ?_) rfl (by kernel_rfl) (by kernel_rfl) (by kernel_rfl) (fun _ _ _ h => h) (Or.inl ⟨by rfl, ?_⟩) trivial ?_
                  rotate_left
                  · intro w _; go_simp; with_reducible rfl
                  try simp only [Act.put, List.setIfInBounds_toArray, List.set_cons_zero, List.set_cons_succ]
                  refine wpAnyH_take (i := 6) (oi := { dst := some 67, op := Op.move (Operand.tmp 0), type := 9, pos := "ref.go:49", after := #[{ on := 2, ground := Ground.guard }], guard := some (2, true) }) (v := ?_) rfl (by kernel_rfl) (by kernel_rfl) (by kernel_rfl) (fun _ _ _ h => h) (Or.inl ⟨by rfl, ?_⟩) trivial ?_
                  rotate_left
                  · intro w _; go_simp; with_reducible rfl
                  try simp only [Act.put, List.setIfInBounds_toArray, List.set_cons_zero, List.set_cons_succ]
                  refine wpAnyH_take (i := 7) (oi := { dst := some 68, op := Op.move (Operand.tmp 1), type := 3, pos := "ref.go:49", after := #[{ on := 2, ground := Ground.guard }], guard := some (2, true) }) (v := ?_) rfl (by kernel_rfl) (by kernel_rfl) (by kernel_rfl) (fun _ _ _ h => h) (Or.inl ⟨by rfl, ?_⟩) trivial ?_
                  rotate_left
                  · intro w _; go_simp; with_reducible rfl
                  try simp only [Act.put, List.setIfInBounds_toArray, List.set_cons_zero, List.set_cons_succ]
                  refine wpAnyH_take (i := 8) (oi := { dst := some 69, op := Op.move (Operand.tmp 1), type := 3, pos := "ref.go:49", after := #[{ on := 2, ground := Ground.guard }], guard := some (2, true) }) (v := ?_) rfl (by kernel_rfl) (by kernel_rfl) (by kernel_rfl) (fun _ _ _ h => h) (Or.inl ⟨by rfl, ?_⟩) trivial ?_
                  rotate_left
                  · intro w _; go_simp; with_reducible rfl
                  try simp only [Act.put, List.setIfInBounds_toArray, List.set_cons_zero, List.set_cons_succ]
                  refine wpAnyH_take (i := 9) (oi := { dst := some 70, op := Op.move (Operand.tmp 6), type := 3, pos := "ref.go:49", after := #[{ on := 2, ground := Ground.guard }], guard := some (2, true) }) (v := ?_) rfl (by kernel_rfl) (by kernel_rfl) (by kernel_rfl) (fun _ _ _ h => h) (Or.inl ⟨by rfl, ?_⟩) trivial ?_
                  rotate_left
                  · intro w _; go_simp; with_reducible rfl
                  try simp only [Act.put, List.setIfInBounds_toArray, List.set_cons_zero, List.set_cons_succ]
                  refine wpAnyH_take (i := 10) (oi := { dst := some 71, op := Op.binOp BinOp.add 3 (Operand.tmp 69) (Operand.tmp 70) 3, type := 3, pos := "ref.go:49", after := #[{ on := 8, ground := Ground.data }, { on := 9, ground := Ground.data }, { on := 2, ground := Ground.guard }], guard := some (2, true) }) (v := ?_) rfl (by kernel_rfl) (by kernel_rfl) (by kernel_rfl) (fun _ _ _ h => h) (Or.inl ⟨by rfl, ?_⟩) trivial ?_
                  rotate_left
                  · intro w _; go_simp; with_reducible rfl
                  try simp only [Act.put, List.setIfInBounds_toArray, List.set_cons_zero, List.set_cons_succ]
                  refine wpAnyH_take (i := 11) (oi := { dst := some 72, op := Op.slice 9 (Operand.tmp 67) (some (Operand.tmp 68)) (some (Operand.tmp 71)) none, type := 9, pos := "ref.go:49", after := #[{ on := 6, ground := Ground.data }, { on := 7, ground := Ground.data }, { on := 10, ground := Ground.data }, { on := 2, ground := Ground.guard }], guard := some (2, true) }) (v := ?_) rfl (by kernel_rfl) (by kernel_rfl) (by kernel_rfl) (fun _ _ _ h => h) (Or.inl ⟨by rfl, ?_⟩) trivial ?_
                  rotate_left
                  · intro w _; go_simp; with_reducible rfl
                  try simp only [Act.put, List.setIfInBounds_toArray, List.set_cons_zero, List.set_cons_succ]
                  refine wpAnyH_ready (rs := [4]) (by kernel_rfl) (by simp) (AllReadyH.cons (o := { dst := some 65, op := Op.call { callee := Callee.value (Operand.func 49), args := #[Operand.tmp 64], argTypes := #[3] }, type := 82, pos := "ref.go:49", after := #[{ on := 3, ground := Ground.data }, { on := 2, ground := Ground.chain }, { on := 2, ground := Ground.guard }], guard := some (2, true) }) rfl (fun K hK => ?_) AllReadyH.nil)
                  rw [if_pos (by rfl)]
                  go_simp
                  (refine (hby _).mono ?_; rintro e w1 ⟨v, rfl, hcv, hb⟩)
                  refine hK.out _ _ trivial (fun _ => ?_)
                  clear hK K
                  try simp only [Act.put, List.setIfInBounds_toArray, List.set_cons_zero, List.set_cons_succ]
                  refine wpAnyH_ready (rs := [5]) (by kernel_rfl) (by simp) (AllReadyH.cons (o := { dst := some 66, op := Op.convert 82 9 (Operand.tmp 65), type := 9, pos := "ref.go:49", after := #[{ on := 4, ground := Ground.data }, { on := 2, ground := Ground.guard }], guard := some (2, true) }) rfl (fun K hK => ?_) AllReadyH.nil)
                  rw [if_pos (by rfl)]
                  go_simp
                  refine hK.out _ _ trivial (fun _ => ?_)
                  clear hK K
                  try simp only [Act.put, List.setIfInBounds_toArray, List.set_cons_zero, List.set_cons_succ]
                  refine wpAnyH_take (i := 12) (oi := { dst := some 73, op := Op.binOp BinOp.eql 9 (Operand.tmp 66) (Operand.tmp 72) 9, type := 4, pos := "ref.go:49", after := #[{ on := 5, ground := Ground.data }, { on := 11, ground := Ground.data }, { on := 2, ground := Ground.guard }], guard := some (2, true) }) (v := ?_) rfl (by kernel_rfl) (by kernel_rfl) (by kernel_rfl) (fun _ _ _ h => h) (Or.inl ⟨by rfl, ?_⟩) trivial ?_
                  rotate_left
                  · intro w _; go_simp; with_reducible rfl
                  try simp only [Act.put, List.setIfInBounds_toArray, List.set_cons_zero, List.set_cons_succ]
                  refine wpAnyH_take (i := 13) (oi := { dst := some 74, op := Op.pick (Operand.tmp 63) (Operand.tmp 73) (Operand.const (Value.bool false)), type := 4, pos := "ref.go:49", after := #[{ on := 2, ground := Ground.data }, { on := 12, ground := Ground.data }], guard := none }) (v := ?_) rfl (by kernel_rfl) (by kernel_rfl) (by kernel_rfl) (fun _ _ _ h => h) (Or.inl ⟨by rfl, ?_⟩) trivial ?_
                  rotate_left
                  · intro w _; go_simp; with_reducible rfl
                  try simp only [Act.put, List.setIfInBounds_toArray, List.set_cons_zero, List.set_cons_succ]
                  refine wpAnyH_done (by kernel_rfl) ?_ _
                  go_wp2
                  go_ret2
                  exact ⟨ret2_eq HH.out.1.symm HH.out.2.symm, below_call hB (by assumption)⟩
                · have hne := HCN.out _ he
                  have HNH : Hid (¬ Hit l j) := by
                    unfold Hit
                    rw [← HC.out]
                    exact fun h => he h.2
                  have hby : ∀ w, Calls Try.prog 49 #[.int .i64 ((gather l j j : Nat) : Int)] w (BytesPost ((gather l j j : Nat) : Int) w) := fun w => bytes_any _ w hp
                  clear he
                  go_wp2
                  refine wp_region_held_drew (S := fun _ => True) (by kernel_rfl) trivial (fun hHeld => ?_)
                  refine wpAnyH_take (i := 0) (oi := { dst := some 61, op := Op.move (Operand.tmp 8), type := 3, pos := "ref.go:49", after := #[], guard := none }) (v := ?_) rfl (by kernel_rfl) (by kernel_rfl) (by kernel_rfl) (fun _ _ _ h => h) (Or.inl ⟨by rfl, ?_⟩) trivial ?_
                  rotate_left
                  · intro w _; go_simp; with_reducible rfl
                  try simp only [Act.put, List.setIfInBounds_toArray, List.set_cons_zero, List.set_cons_succ]
                  refine wpAnyH_ready (rs := [1]) (by kernel_rfl) (by simp) (AllReadyH.cons (o := { dst := some 62, op := Op.call { callee := Callee.value (Operand.func 48), args := #[Operand.tmp 61], argTypes := #[3] }, type := 4, pos := "ref.go:49", after := #[{ on := 0, ground := Ground.data }], guard := none }) rfl (fun K hK => ?_) AllReadyH.nil)
                  rw [if_pos (by rfl)]
                  go_simp
                  (refine (point_true _ _ hp).mono ?_; rintro e w' ⟨rfl, rfl⟩)
                  refine hK.out _ _ trivial (fun _ => ?_)
                  clear hK K
                  try simp only [Act.put, List.setIfInBounds_toArray, List.set_cons_zero, List.set_cons_succ]
                  refine wpAnyH_take (i := 2) (oi := { dst := some 63, op := Op.move (Operand.tmp 62), type := 4, pos := "ref.go:49", after := #[{ on := 1, ground := Ground.data }, { on := 1, ground := Ground.chain }], guard := none }) (v := ?_) rfl (by kernel_rfl) (by kernel_rfl) (by kernel_rfl) (fun _ _ _ h => h) (Or.inl ⟨by rfl, ?_⟩) trivial ?_
                  rotate_left
                  · intro w _; go_simp; with_reducible rfl
                  try simp only [Act.put, List.setIfInBounds_toArray, List.set_cons_zero, List.set_cons_succ]
                  refine wpAnyH_take (i := 3) (oi := { dst := some 64, op := Op.move (Operand.tmp 8), type := 3, pos := "ref.go:49", after := #[{ on := 2, ground := Ground.guard }], guard := some (2, true) }) (v := ?_) rfl (by kernel_rfl) (by kernel_rfl) (by kernel_rfl) (fun _ _ _ h => h) (Or.inl ⟨by rfl, ?_⟩) trivial ?_
                  rotate_left
                  · intro w _; go_simp; with_reducible rfl
                  try simp only [Act.put, List.setIfInBounds_toArray, List.set_cons_zero, List.set_cons_succ]
                  refine wpAnyH_take (i := 6) (oi := { dst := some 67, op := Op.move (Operand.tmp 0), type := 9, pos := "ref.go:49", after := #[{ on := 2, ground := Ground.guard }], guard := some (2, true) }) (v := ?_) rfl (by kernel_rfl) (by kernel_rfl) (by kernel_rfl) (fun _ _ _ h => h) (Or.inl ⟨by rfl, ?_⟩) trivial ?_
                  rotate_left
                  · intro w _; go_simp; with_reducible rfl
                  try simp only [Act.put, List.setIfInBounds_toArray, List.set_cons_zero, List.set_cons_succ]
                  refine wpAnyH_take (i := 7) (oi := { dst := some 68, op := Op.move (Operand.tmp 1), type := 3, pos := "ref.go:49", after := #[{ on := 2, ground := Ground.guard }], guard := some (2, true) }) (v := ?_) rfl (by kernel_rfl) (by kernel_rfl) (by kernel_rfl) (fun _ _ _ h => h) (Or.inl ⟨by rfl, ?_⟩) trivial ?_
                  rotate_left
                  · intro w _; go_simp; with_reducible rfl
                  try simp only [Act.put, List.setIfInBounds_toArray, List.set_cons_zero, List.set_cons_succ]
                  refine wpAnyH_take (i := 8) (oi := { dst := some 69, op := Op.move (Operand.tmp 1), type := 3, pos := "ref.go:49", after := #[{ on := 2, ground := Ground.guard }], guard := some (2, true) }) (v := ?_) rfl (by kernel_rfl) (by kernel_rfl) (by kernel_rfl) (fun _ _ _ h => h) (Or.inl ⟨by rfl, ?_⟩) trivial ?_
                  rotate_left
                  · intro w _; go_simp; with_reducible rfl
                  try simp only [Act.put, List.setIfInBounds_toArray, List.set_cons_zero, List.set_cons_succ]
                  refine wpAnyH_take (i := 9) (oi := { dst := some 70, op := Op.move (Operand.tmp 6), type := 3, pos := "ref.go:49", after := #[{ on := 2, ground := Ground.guard }], guard := some (2, true) }) (v := ?_) rfl (by kernel_rfl) (by kernel_rfl) (by kernel_rfl) (fun _ _ _ h => h) (Or.inl ⟨by rfl, ?_⟩) trivial ?_
                  rotate_left
                  · intro w _; go_simp; with_reducible rfl
                  try simp only [Act.put, List.setIfInBounds_toArray, List.set_cons_zero, List.set_cons_succ]
                  refine wpAnyH_take (i := 10) (oi := { dst := some 71, op := Op.binOp BinOp.add 3 (Operand.tmp 69) (Operand.tmp 70) 3, type := 3, pos := "ref.go:49", after := #[{ on := 8, ground := Ground.data }, { on := 9, ground := Ground.data }, { on := 2, ground := Ground.guard }], guard := some (2, true) }) (v := ?_) rfl (by kernel_rfl) (by kernel_rfl) (by kernel_rfl) (fun _ _ _ h => h) (Or.inl ⟨by rfl, ?_⟩) trivial ?_
                  rotate_left
                  · intro w _; go_simp; with_reducible rfl
                  try simp only [Act.put, List.setIfInBounds_toArray, List.set_cons_zero, List.set_cons_succ]
                  refine wpAnyH_take (i := 11) (oi := { dst := some 72, op := Op.slice 9 (Operand.tmp 67) (some (Operand.tmp 68)) (some (Operand.tmp 71)) none, type := 9, pos := "ref.go:49", after := #[{ on := 6, ground := Ground.data }, { on := 7, ground := Ground.data }, { on := 10, ground := Ground.data }, { on := 2, ground := Ground.guard }], guard := some (2, true) }) (v := ?_) rfl (by kernel_rfl) (by kernel_rfl) (by kernel_rfl) (fun _ _ _ h => h) (Or.inl ⟨by rfl, ?_⟩) trivial ?_
                  rotate_left
                  · intro w _; go_simp; with_reducible rfl
                  try simp only [Act.put, List.setIfInBounds_toArray, List.set_cons_zero, List.set_cons_succ]
                  refine wpAnyH_ready (rs := [4]) (by kernel_rfl) (by simp) (AllReadyH.cons (o := { dst := some 65, op := Op.call { callee := Callee.value (Operand.func 49), args := #[Operand.tmp 64], argTypes := #[3] }, type := 82, pos := "ref.go:49", after := #[{ on := 3, ground := Ground.data }, { on := 2, ground := Ground.chain }, { on := 2, ground := Ground.guard }], guard := some (2, true) }) rfl (fun K hK => ?_) AllReadyH.nil)
                  rw [if_pos (by rfl)]
                  go_simp
                  (refine (hby _).mono ?_; rintro e w1 ⟨v, rfl, hcv, hb⟩)
                  refine hK.out _ _ trivial (fun _ => ?_)
                  clear hK K
                  try simp only [Act.put, List.setIfInBounds_toArray, List.set_cons_zero, List.set_cons_succ]
                  refine wpAnyH_ready (rs := [5]) (by kernel_rfl) (by simp) (AllReadyH.cons (o := { dst := some 66, op := Op.convert 82 9 (Operand.tmp 65), type := 9, pos := "ref.go:49", after := #[{ on := 4, ground := Ground.data }, { on := 2, ground := Ground.guard }], guard := some (2, true) }) rfl (fun K hK => ?_) AllReadyH.nil)
                  rw [if_pos (by rfl)]
                  go_simp
                  refine hK.out _ _ trivial (fun _ => ?_)
                  clear hK K
                  try simp only [Act.put, List.setIfInBounds_toArray, List.set_cons_zero, List.set_cons_succ]
                  refine wpAnyH_take (i := 12) (oi := { dst := some 73, op := Op.binOp BinOp.eql 9 (Operand.tmp 66) (Operand.tmp 72) 9, type := 4, pos := "ref.go:49", after := #[{ on := 5, ground := Ground.data }, { on := 11, ground := Ground.data }, { on := 2, ground := Ground.guard }], guard := some (2, true) }) (v := ?_) rfl (by kernel_rfl) (by kernel_rfl) (by kernel_rfl) (fun _ _ _ h => h) (Or.inl ⟨by rfl, ?_⟩) trivial ?_
                  rotate_left
                  · intro w _; go_simp; with_reducible rfl
                  try simp only [Act.put, List.setIfInBounds_toArray, List.set_cons_zero, List.set_cons_succ]
                  refine wpAnyH_take (i := 13) (oi := { dst := some 74, op := Op.pick (Operand.tmp 63) (Operand.tmp 73) (Operand.const (Value.bool false)), type := 4, pos := "ref.go:49", after := #[{ on := 2, ground := Ground.data }, { on := 12, ground := Ground.data }], guard := none }) (v := ?_) rfl (by kernel_rfl) (by kernel_rfl) (by kernel_rfl) (fun _ _ _ h => h) (Or.inl ⟨by rfl, ?_⟩) trivial ?_
                  rotate_left
                  · intro w _; go_simp; with_reducible rfl
                  try simp only [Act.put, List.setIfInBounds_toArray, List.set_cons_zero, List.set_cons_succ]
                  refine wpAnyH_done (by kernel_rfl) ?_ _
                  go_wp2
                  refine ⟨⟨j + 1, by go_num, by omega, by omega, Or.inr (by omega), no_more HNO.out HNH.out, below_call hB (by assumption)⟩, ?_⟩
                  simp [RowKit.intOf]; omega
              · have HNH : Hid (¬ Hit l j) := by
                  unfold Hit
                  rw [← HC.out]
                  exact fun h => hp h.1
                go_wp2
                go_quiet ((go_at_call 48; exact Calls.quiet_of_same (point_false _ _ hp)))
                go_wp2
                refine ⟨⟨j + 1, by go_num, by omega, by omega, Or.inr (by omega), no_more HNO.out HNH.out, below_draws hB _⟩, ?_⟩
                simp [RowKit.intOf]; omega
      · have HH : Hid (headP l = -1 ∧ headW l = 1) := head_missed l (by rw [HN.out]; omega) (fun j h1 h2 h3 => HNO.out j h1 (by rw [HN.out] at h3; omega))
        go_wp2
        go_ret2
        exact ⟨ret2_eq HH.out.1.symm HH.out.2.symm, hB⟩
    · have HH : Hid (headP l = -1 ∧ headW l = 1) := head_missed l (by rw [HN.out]; omega) (fun j h1 h2 h3 => HNO.out j h1 (by omega))
      go_wp2
      go_ret2
      exact ⟨ret2_eq HH.out.1.symm HH.out.2.symm, hB⟩
end Go.Proofs.Ytipbojiialfmeaa
