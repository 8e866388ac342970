/- Merged texts: RW1, RW2, RR1, RR2, RR3, RX9, RZ1, RX6, RZ4. -/
import Derived.Test.YtcenfckjkboabaaGreatDoorGA
import Derived.WalkKit
import Derived.WalkSpells
import Derived.WalkLawsBesides
import Derived.Deep.QuietTactic
import Derived.BigQuiet
import Derived.Deep.RegionWith
import Derived.Deep.RegionHeld3
import Derived.Shelf.RegionOpen
/- RW1: The walks of the small functions of emend/utf, emendref02, emendlaw02: what each returns. -/
namespace Go.Proofs.YtcenfckjkboabaaGreatDoor
open Go.RowKit
theorem point_true (n : Int) (w : World) (h : 0 ≤ n ∧ n ≤ 1114111 ∧ (n < 55296 ∨ 57343 < n)) :
    Calls Tryz.prog 135 #[.int .i64 n] w fun e w' => e = .returned (.bool true) ∧ w' = w := by
  obtain ⟨h1, h2, h3⟩ := h
  by_cases h4 : n < 55296
  · go_enter Tryz.func135, Tryz.ntmps135
    go_wp2
    go_ret
    exact ⟨rfl, rfl⟩
  · have h5 : 57343 < n := by omega
    go_enter Tryz.func135, Tryz.ntmps135
    go_wp2
    go_ret
    exact ⟨by simp, rfl⟩
theorem low_any (b : UInt8) (w : World) :
    Calls Tryz.prog 134 #[.int .u8 b.toNat] w fun e w' => e = .returned (.int .i64 ((b.toNat : Int) % 64)) ∧ w' = w := by
  have hb : (b.toNat : Int) < 256 := by have := b.toNat_lt; omega
  go_enter Tryz.func134, Tryz.ntmps134
  go_wp2
  go_ret
  exact ⟨rfl, rfl⟩
end Go.Proofs.YtcenfckjkboabaaGreatDoor
/- RW2: The walks of emendref02.Bytes, emendref02.Encode, emend/utf.Encode, pointAt, Decode. -/
namespace Go.Proofs.YtcenfckjkboabaaGreatDoor
open Go.RowKit Go.Proofs.Utf Go.Lib
theorem point_false (n : Int) (w : World) (h : ¬ IsPoint n) :
    Calls Tryz.prog 135 #[.int .i64 n] w fun e w' => e = .returned (.bool false) ∧ w' = w := by
  unfold IsPoint at h
  by_cases h1 : 0 ≤ n
  · by_cases h2 : n ≤ 1114111
    · have h4 : ¬ n < 55296 := by omega
      have h5 : ¬ 57343 < n := by omega
      go_enter Tryz.func135, Tryz.ntmps135
      go_wp2
      go_ret
      exact ⟨by simp, rfl⟩
    · go_enter Tryz.func135, Tryz.ntmps135
      go_wp2
      go_ret
      exact ⟨by simp, rfl⟩
  · go_enter Tryz.func135, Tryz.ntmps135
    go_wp2
    go_ret
    exact ⟨by simp, rfl⟩
theorem cells_enc (n : Int) (hp : IsPoint n) : (encodeRune n).map (fun b => Value.int .u8 (b.toNat : Int)) = runeCells n := by
  obtain ⟨h0, h1, h2⟩ := hp
  simp only [encodeRune, runeCells, List.map_map]
  apply List.map_congr_left
  intro x hx
  have hb : 0 ≤ x ∧ x < 256 := by
    unfold encodeRuneZ at hx
    split at hx
    · simp at hx; omega
    split at hx
    · simp at hx; omega
    split at hx
    · simp at hx; omega
    split at hx
    · simp at hx; omega
    · simp at hx; omega
  simp
  omega
def BytesPost (n : Int) (w : World) (e : Ending) (w' : World) : Prop :=
  ∃ v, e = .returned v ∧ (convert 119 9 v).run Tryz.prog w' = .ok (.string ⟨(encodeRune n).toArray⟩) w' ∧ Below w.heap.size w w'
theorem bytes_end (n : Int) (hp : IsPoint n) (w : World) (C : List Value) (k : Nat) (hC : runeCells n = C) (hk : C.length = k) :
    BytesPost n w (.returned (.slice (some ⟨w.heap.size, 0, none⟩) k k)) (w.alloc (.cells C.toArray 5)) := by
  have hl : (encodeRune n).length = k := by
    have := congrArg List.length (cells_enc n hp)
    rw [hC, hk, List.length_map] at this
    exact this
  refine ⟨_, rfl, ?_, (Below.refl _ _).alloc (Nat.le_refl _) _⟩
  rw [← hl]
  refine run_convert_bytes_back (P := Tryz.prog) _ 119 9 5 _ _ _ Tryz.underlying119 Tryz.underlying5 Tryz.underlying9 ?_
  intro j hj
  have e : (w.alloc (.cells C.toArray 5)).cell? ⟨w.heap.size, j, none⟩ = C.toArray[j]? := World.cell?_alloc_mark w C.toArray 5 (0, 0) j
  rw [show (Addr.add ⟨w.heap.size, 0, none⟩ j) = ⟨w.heap.size, j, none⟩ by unfold Addr.add; split <;> simp_all, e, ← hC, ← cells_enc n hp]
  simp [hj]
theorem bytes_any (n : Int) (w : World) (hp : IsPoint n) : Calls Tryz.prog 136 #[.int .i64 n] w (BytesPost n w) := by
  obtain ⟨h0, h1, h2⟩ := id hp
  by_cases a : n ≤ 127
  · go_enter Tryz.func136, Tryz.ntmps136
    go_wp2
    go_ret
    exact bytes_end n hp w [.int .u8 n] 1 (by simp [runeCells, encodeRuneZ_one h0 a]) rfl
  by_cases b : n ≤ 2047
  · go_enter Tryz.func136, Tryz.ntmps136
    go_wp2
    go_ret
    exact bytes_end n hp w [.int .u8 (192 + n / 64), .int .u8 (128 + n % 64)] 2 (by simp [runeCells, encodeRuneZ_two (show 128 ≤ n by omega) b]) rfl
  by_cases c : n ≤ 65535
  · go_enter Tryz.func136, Tryz.ntmps136
    go_wp2
    go_ret
    exact bytes_end n hp w [.int .u8 (224 + n / 4096), .int .u8 (128 + n / 64 % 64), .int .u8 (128 + n % 64)] 3 (by simp [runeCells, encodeRuneZ_three (show (2048 ≤ n ∧ n < 55296) ∨ (57343 < n ∧ n ≤ 65535) by omega)]) rfl
  · go_enter Tryz.func136, Tryz.ntmps136
    go_wp2
    go_ret
    exact bytes_end n hp w [.int .u8 (240 + n / 262144), .int .u8 (128 + n / 4096 % 64), .int .u8 (128 + n / 64 % 64), .int .u8 (128 + n % 64)] 4 (by simp [runeCells, encodeRuneZ_four (show 65536 ≤ n by omega) h1]) rfl
end Go.Proofs.YtcenfckjkboabaaGreatDoor
/- RR1: The walk of the reference's Decode. -/
namespace Go.Proofs.YtcenfckjkboabaaGreatDoor
open Go.RowKit Go.Proofs.Utf Go.Lib

theorem refDecode_out (s : ByteArray) (a : Int) (w : World) (_hs : s.size ≤ 140737488355328) (ha : a < 0 ∨ s.size ≤ a) :
    Calls Tryz.prog 122 #[.string s, .int .i64 a] w fun e w' => e = .returned (.tuple #[.int .i64 (-1), .int .i64 0]) ∧ w' = w := by
  by_cases h0 : a < 0
  · go_enter Tryz.func122, Tryz.ntmps122
    go_wp2
    go_ret2
    exact ⟨rfl, rfl⟩
  · have h1 : (s.size : Int) ≤ a := by omega
    go_enter Tryz.func122, Tryz.ntmps122
    go_wp2
    go_ret2
    exact ⟨rfl, rfl⟩
theorem byte_at (s : ByteArray) (a i : Nat) (h : a + i < s.size) : (s[a + i]'h) = (s.data.toList.drop a).getD i 0 := by
  rw [getD_dropU, getD_get!']
  cases s with
  | mk d => exact (getElem!_pos d (a + i) h).symm
theorem byte_at0 (s : ByteArray) (a : Nat) (h : a < s.size) : (s[a]'h) = (s.data.toList.drop a).getD 0 0 := byte_at s a 0 h
theorem slice_at (s : ByteArray) (a k : Nat) (h : a + k ≤ s.size) (w : World) :
    (Instr.slice 9 (.string s) (some (.int .i64 (a : Int))) (some (.int .i64 ((a : Int) + (k : Int)))) none).run Tryz.prog w = .ok (.string (s.extract a (a + k))) w := by
  rw [run_slice_string_if (P := Tryz.prog) (w := w) 9 s .i64 .i64 a (a + k) Tryz.underlying9, if_pos ⟨by omega, by omega⟩, if_pos ⟨by omega, by omega⟩]
  rw [show ((a : Int)).toNat = a from by omega, show ((a : Int) + (k : Int)).toNat = a + k from by omega]
theorem cut_bytes (s : ByteArray) (a k : Nat) (_h : a + k ≤ s.size) : (s.extract a (a + k)).data.toList = (s.data.toList.drop a).take k := by
  rw [Lib.extract_data, show a + k - a = k from by omega]
theorem cut_eq (s : ByteArray) (a k : Nat) (h : a + k ≤ s.size) (n : Int) (he : encodeRune n = (s.data.toList.drop a).take k) :
    (⟨(encodeRune n).toArray⟩ : ByteArray) = s.extract a (a + k) := by
  have := cut_bytes s a k h
  rw [he, ← this]
theorem cut_ne (s : ByteArray) (a k : Nat) (h : a + k ≤ s.size) (n : Int) (he : ¬ encodeRune n = (s.data.toList.drop a).take k) :
    (encodeRune n == (s.extract a (a + k)).toList) = false := by
  rw [Lib.toList_data, cut_bytes s a k h]
  simpa using he
theorem below_call {w wr w1 : World} (hB : Below w.heap.size w wr) (hb : Below wr.drew.heap.size wr.drew w1) : Below w.heap.size w w1 :=
  hB.drew.trans (hb.mono hB.size)
theorem ret2_eq {a b : Int} {c d : Nat} (h1 : a = b) (h2 : c = d) : Ending.returned (.tuple #[.int .i64 a, .int .i64 (c : Int)]) = .returned (.tuple #[.int .i64 b, .int .i64 (d : Int)]) := by rw [h1, h2]
theorem no_more {l : List UInt8} {k : Nat} (h : ∀ j, 1 ≤ j → j < k → ¬ Hit l j) (hk : ¬ Hit l k) : ∀ j, 1 ≤ j → j < k + 1 → ¬ Hit l j := by
  intro j h1 h2
  by_cases e : j = k
  · subst e; exact hk
  · exact h j h1 (by omega)
set_option maxHeartbeats 4000000 in
set_option maxRecDepth 100000 in
theorem refDecode_in (s : ByteArray) (a : Nat) (w : World) (hs : s.size ≤ 140737488355328) (ha : a < s.size) :
    Calls Tryz.prog 122 #[.string s, .int .i64 a] w fun e w' =>
      e = .returned (.tuple #[.int .i64 (headP (s.data.toList.drop a)), .int .i64 (headW (s.data.toList.drop a))]) ∧ Below w.heap.size w w' := by
  obtain ⟨l, hl⟩ : ∃ l, l = s.data.toList.drop a := ⟨_, rfl⟩
  have HG0 : Hid ((s[a]'ha) = l.getD 0 0) := by rw [hl]; exact byte_at0 s a ha
  have HG : Hid (∀ i (h : a + i < s.size), (s[a + i]'h) = l.getD i 0) := by
    intro i h
    rw [hl]; exact byte_at s a i h
  rw [← hl]
  have hn0 : l.length = s.size - a := by rw [hl, List.length_drop, ← Lib.size_eq]
  have HN := Lib.hid hn0
  clear hn0
  have HL := Lib.hid hl
  clear hl
  have hb0 : ((s[a]'ha).toNat : Int) < 256 := by have := (s[a]'ha).toNat_lt; omega
  have hz0 : ¬ ((a : Int) < 0) := by omega
  go_enter Tryz.func122, Tryz.ntmps122
  go_wp2
  go_loopw [6] (fun n wr => ∃ k : Nat, n = .int .i64 k ∧ 1 ≤ k ∧ k ≤ 5 ∧ (k = 1 ∨ k ≤ s.size - a + 1) ∧ (∀ j, 1 ≤ j → j < k → ¬ Hit l j) ∧ Below w.heap.size w wr) (fun n _ => 5 - (RowKit.intOf n).toNat)
  case atStart => exact ⟨1, rfl, by omega, by omega, by omega, fun j h1 h2 => absurd h2 (by omega), Below.refl _ _⟩
  case round =>
    obtain ⟨k, rfl, hk1, hk5, hkl, hno, hB⟩ := hrel
    have HNO := Lib.hid hno
    have HKL := Lib.hid hkl
    clear hno hkl
    by_cases hk : k ≤ 4
    · by_cases hk2 : (k : Int) ≤ (s.size : Int) - (a : Int)
      · have hslice := fun w' => slice_at s a k (by omega) w'
        have hwrap : IntKind.i64.wrap ((a : Int) + (k : Int)) = (a : Int) + (k : Int) := IntWalk.i64_in _ (by omega)
        have HCE := Lib.hid (cut_eq s a k (by omega))
        have HCN := Lib.hid (cut_ne s a k (by omega))
        rw [← HL.out] at HCE HCN
        generalize s.extract a (a + k) = X at hslice HCE HCN
        rcases (show k ≤ 1 ∨ (2 ≤ k ∧ k ≤ 2) ∨ (3 ≤ k ∧ k ≤ 3) ∨ 4 ≤ k by omega) with hc | ⟨hc, hc'⟩ | ⟨hc, hc'⟩ | hc
        · have HC : Hid ((((s[a]'ha).toNat : Int)) = candL l k) := by rw [start1 l k _ HG0.out hk1 hc, ← gather_cand l k hk1 hk, show k = 1 from by omega]; exact Lib.hid rfl
          by_cases hp : IsPoint ((s[a]'ha).toNat : Int)
          · by_cases he : encodeRune ((s[a]'ha).toNat : Int) = l.take k
            · have hby : ∀ w, Calls Tryz.prog 136 #[.int .i64 ((s[a]'ha).toNat : Int)] w fun e w' => ∃ v, e = .returned v ∧ (convert 119 9 v).run Tryz.prog w' = .ok (.string X) w' ∧ Below w.heap.size w w' := fun w => by
                rw [← HCE.out _ he]; exact bytes_any _ w hp
              have HH : Hid (headP l = ((s[a]'ha).toNat : Int) ∧ headW l = k) := by
                have h1 : Hit l k := by
                  unfold Hit
                  rw [← HC.out]
                  exact ⟨hp, he⟩
                have h2 := head_found l k hk1 hk (by rw [HN.out]; omega) h1
                rw [← HC.out] at h2
                exact h2
              clear he
              go_wp2
              refine wp_region_held_drew (S := fun _ => True) (by kernel_rfl) trivial (fun hHeld => ?_)
              refine wpAnyH_take (i := 0) (oi := { dst := some 61, op := Op.move (Operand.tmp 8), type := 3, pos := "ref.go:49", after := #[], guard := none }) (v := ?_) rfl (by kernel_rfl) (by kernel_rfl) (by kernel_rfl) (fun _ _ _ h => h) (Or.inl ⟨by rfl, ?_⟩) trivial ?_
              rotate_left
              · intro w _; go_simp; with_reducible rfl
              try simp only [Act.put, List.setIfInBounds_toArray, List.set_cons_zero, List.set_cons_succ]
              refine wpAnyH_ready (rs := [1]) (by kernel_rfl) (by simp) (AllReadyH.cons (o := { dst := some 62, op := Op.call { callee := Callee.value (Operand.func 135), args := #[Operand.tmp 61], argTypes := #[3] }, type := 4, pos := "ref.go:49", after := #[{ on := 0, ground := Ground.data }], guard := none }) rfl (fun K hK => ?_) AllReadyH.nil)
              rw [if_pos (by rfl)]
              go_simp
              (refine (point_true _ _ hp).mono ?_; rintro e w' ⟨rfl, rfl⟩)
              refine hK.out _ _ trivial (fun _ => ?_)
              clear hK K
              try simp only [Act.put, List.setIfInBounds_toArray, List.set_cons_zero, List.set_cons_succ]
              refine wpAnyH_take (i := 2) (oi := { dst := some 63, op := Op.move (Operand.tmp 62), type := 4, pos := "ref.go:49", after := #[{ on := 1, ground := Ground.data }, { on := 1, ground := Ground.chain }], guard := none }) (v := ?_) rfl (by kernel_rfl) (by kernel_rfl) (by kernel_rfl) (fun _ _ _ h => h) (Or.inl ⟨by rfl, ?_⟩) trivial ?_
              rotate_left
              · intro w _; go_simp; with_reducible rfl
              try simp only [Act.put, List.setIfInBounds_toArray, List.set_cons_zero, List.set_cons_succ]
              refine wpAnyH_take (i := 3) (oi := { dst := some 64, op := Op.move (Operand.tmp 8), type := 3, pos := "ref.go:49", after := #[{ on := 2, ground := Ground.guard }], guard := some (2, true) }) (v := ?_) rfl (by kernel_rfl) (by kernel_rfl) (by kernel_rfl) (fun _ _ _ h => h) (Or.inl ⟨by rfl, ?_⟩) trivial ?_
              rotate_left
              · intro w _; go_simp; with_reducible rfl
              try simp only [Act.put, List.setIfInBounds_toArray, List.set_cons_zero, List.set_cons_succ]
              refine wpAnyH_take (i := 6) (oi := { dst := some 67, op := Op.move (Operand.tmp 0), type := 9, pos := "ref.go:49", after := #[{ on := 2, ground := Ground.guard }], guard := some (2, true) }) (v := ?_) rfl (by kernel_rfl) (by kernel_rfl) (by kernel_rfl) (fun _ _ _ h => h) (Or.inl ⟨by rfl, ?_⟩) trivial ?_
              rotate_left
              · intro w _; go_simp; with_reducible rfl
              try simp only [Act.put, List.setIfInBounds_toArray, List.set_cons_zero, List.set_cons_succ]
              refine wpAnyH_take (i := 7) (oi := { dst := some 68, op := Op.move (Operand.tmp 1), type := 3, pos := "ref.go:49", after := #[{ on := 2, ground := Ground.guard }], guard := some (2, true) }) (v := ?_) rfl (by kernel_rfl) (by kernel_rfl) (by kernel_rfl) (fun _ _ _ h => h) (Or.inl ⟨by rfl, ?_⟩) trivial ?_
              rotate_left
              · intro w _; go_simp; with_reducible rfl
              try simp only [Act.put, List.setIfInBounds_toArray, List.set_cons_zero, List.set_cons_succ]
              refine wpAnyH_take (i := 8) (oi := { dst := some 69, op := Op.move (Operand.tmp 1), type := 3, pos := "ref.go:49", after := #[{ on := 2, ground := Ground.guard }], guard := some (2, true) }) (v := ?_) rfl (by kernel_rfl) (by kernel_rfl) (by kernel_rfl) (fun _ _ _ h => h) (Or.inl ⟨by rfl, ?_⟩) trivial ?_
              rotate_left
              · intro w _; go_simp; with_reducible rfl
              try simp only [Act.put, List.setIfInBounds_toArray, List.set_cons_zero, List.set_cons_succ]
              refine wpAnyH_take (i := 9) (oi := { dst := some 70, op := Op.move (Operand.tmp 6), type := 3, pos := "ref.go:49", after := #[{ on := 2, ground := Ground.guard }], guard := some (2, true) }) (v := ?_) rfl (by kernel_rfl) (by kernel_rfl) (by kernel_rfl) (fun _ _ _ h => h) (Or.inl ⟨by rfl, ?_⟩) trivial ?_
              rotate_left
              · intro w _; go_simp; with_reducible rfl
              try simp only [Act.put, List.setIfInBounds_toArray, List.set_cons_zero, List.set_cons_succ]
              refine wpAnyH_take (i := 10) (oi := { dst := some 71, op := Op.binOp BinOp.add 3 (Operand.tmp 69) (Operand.tmp 70) 3, type := 3, pos := "ref.go:49", after := #[{ on := 8, ground := Ground.data }, { on := 9, ground := Ground.data }, { on := 2, ground := Ground.guard }], guard := some (2, true) }) (v := ?_) rfl (by kernel_rfl) (by kernel_rfl) (by kernel_rfl) (fun _ _ _ h => h) (Or.inl ⟨by rfl, ?_⟩) trivial ?_
              rotate_left
              · intro w _; go_simp; with_reducible rfl
              try simp only [Act.put, List.setIfInBounds_toArray, List.set_cons_zero, List.set_cons_succ]
              refine wpAnyH_take (i := 11) (oi := { dst := some 72, op := Op.slice 9 (Operand.tmp 67) (some (Operand.tmp 68)) (some (Operand.tmp 71)) none, type := 9, pos := "ref.go:49", after := #[{ on := 6, ground := Ground.data }, { on := 7, ground := Ground.data }, { on := 10, ground := Ground.data }, { on := 2, ground := Ground.guard }], guard := some (2, true) }) (v := ?_) rfl (by kernel_rfl) (by kernel_rfl) (by kernel_rfl) (fun _ _ _ h => h) (Or.inl ⟨by rfl, ?_⟩) trivial ?_
              rotate_left
              · intro w _; go_simp; with_reducible rfl
              try simp only [Act.put, List.setIfInBounds_toArray, List.set_cons_zero, List.set_cons_succ]
              refine wpAnyH_ready (rs := [4]) (by kernel_rfl) (by simp) (AllReadyH.cons (o := { dst := some 65, op := Op.call { callee := Callee.value (Operand.func 136), args := #[Operand.tmp 64], argTypes := #[3] }, type := 119, pos := "ref.go:49", after := #[{ on := 3, ground := Ground.data }, { on := 2, ground := Ground.chain }, { on := 2, ground := Ground.guard }], guard := some (2, true) }) rfl (fun K hK => ?_) AllReadyH.nil)
              rw [if_pos (by rfl)]
              go_simp
              (refine (hby _).mono ?_; rintro e w1 ⟨v, rfl, hcv, hb⟩)
              refine hK.out _ _ trivial (fun _ => ?_)
              clear hK K
              try simp only [Act.put, List.setIfInBounds_toArray, List.set_cons_zero, List.set_cons_succ]
              refine wpAnyH_ready (rs := [5]) (by kernel_rfl) (by simp) (AllReadyH.cons (o := { dst := some 66, op := Op.convert 119 9 (Operand.tmp 65), type := 9, pos := "ref.go:49", after := #[{ on := 4, ground := Ground.data }, { on := 2, ground := Ground.guard }], guard := some (2, true) }) rfl (fun K hK => ?_) AllReadyH.nil)
              rw [if_pos (by rfl)]
              go_simp
              refine hK.out _ _ trivial (fun _ => ?_)
              clear hK K
              try simp only [Act.put, List.setIfInBounds_toArray, List.set_cons_zero, List.set_cons_succ]
              refine wpAnyH_take (i := 12) (oi := { dst := some 73, op := Op.binOp BinOp.eql 9 (Operand.tmp 66) (Operand.tmp 72) 9, type := 4, pos := "ref.go:49", after := #[{ on := 5, ground := Ground.data }, { on := 11, ground := Ground.data }, { on := 2, ground := Ground.guard }], guard := some (2, true) }) (v := ?_) rfl (by kernel_rfl) (by kernel_rfl) (by kernel_rfl) (fun _ _ _ h => h) (Or.inl ⟨by rfl, ?_⟩) trivial ?_
              rotate_left
              · intro w _; go_simp; with_reducible rfl
              try simp only [Act.put, List.setIfInBounds_toArray, List.set_cons_zero, List.set_cons_succ]
              refine wpAnyH_take (i := 13) (oi := { dst := some 74, op := Op.pick (Operand.tmp 63) (Operand.tmp 73) (Operand.const (Value.bool false)), type := 4, pos := "ref.go:49", after := #[{ on := 2, ground := Ground.data }, { on := 12, ground := Ground.data }], guard := none }) (v := ?_) rfl (by kernel_rfl) (by kernel_rfl) (by kernel_rfl) (fun _ _ _ h => h) (Or.inl ⟨by rfl, ?_⟩) trivial ?_
              rotate_left
              · intro w _; go_simp; with_reducible rfl
              try simp only [Act.put, List.setIfInBounds_toArray, List.set_cons_zero, List.set_cons_succ]
              refine wpAnyH_done (by kernel_rfl) ?_ _
              go_wp2
              go_ret2
              exact ⟨ret2_eq HH.out.1.symm HH.out.2.symm, below_call hB (by assumption)⟩
            · have hne := HCN.out _ he
              have HNH : Hid (¬ Hit l k) := by
                unfold Hit
                rw [← HC.out]
                exact fun h => he h.2
              have hby : ∀ w, Calls Tryz.prog 136 #[.int .i64 ((s[a]'ha).toNat : Int)] w (BytesPost ((s[a]'ha).toNat : Int) w) := fun w => bytes_any _ w hp
              clear he
              go_wp2
              refine wp_region_held_drew (S := fun _ => True) (by kernel_rfl) trivial (fun hHeld => ?_)
              refine wpAnyH_take (i := 0) (oi := { dst := some 61, op := Op.move (Operand.tmp 8), type := 3, pos := "ref.go:49", after := #[], guard := none }) (v := ?_) rfl (by kernel_rfl) (by kernel_rfl) (by kernel_rfl) (fun _ _ _ h => h) (Or.inl ⟨by rfl, ?_⟩) trivial ?_
              rotate_left
              · intro w _; go_simp; with_reducible rfl
              try simp only [Act.put, List.setIfInBounds_toArray, List.set_cons_zero, List.set_cons_succ]
              refine wpAnyH_ready (rs := [1]) (by kernel_rfl) (by simp) (AllReadyH.cons (o := { dst := some 62, op := Op.call { callee := Callee.value (Operand.func 135), args := #[Operand.tmp 61], argTypes := #[3] }, type := 4, pos := "ref.go:49", after := #[{ on := 0, ground := Ground.data }], guard := none }) rfl (fun K hK => ?_) AllReadyH.nil)
              rw [if_pos (by rfl)]
              go_simp
              (refine (point_true _ _ hp).mono ?_; rintro e w' ⟨rfl, rfl⟩)
              refine hK.out _ _ trivial (fun _ => ?_)
              clear hK K
              try simp only [Act.put, List.setIfInBounds_toArray, List.set_cons_zero, List.set_cons_succ]
              refine wpAnyH_take (i := 2) (oi := { dst := some 63, op := Op.move (Operand.tmp 62), type := 4, pos := "ref.go:49", after := #[{ on := 1, ground := Ground.data }, { on := 1, ground := Ground.chain }], guard := none }) (v := ?_) rfl (by kernel_rfl) (by kernel_rfl) (by kernel_rfl) (fun _ _ _ h => h) (Or.inl ⟨by rfl, ?_⟩) trivial ?_
              rotate_left
              · intro w _; go_simp; with_reducible rfl
              try simp only [Act.put, List.setIfInBounds_toArray, List.set_cons_zero, List.set_cons_succ]
              refine wpAnyH_take (i := 3) (oi := { dst := some 64, op := Op.move (Operand.tmp 8), type := 3, pos := "ref.go:49", after := #[{ on := 2, ground := Ground.guard }], guard := some (2, true) }) (v := ?_) rfl (by kernel_rfl) (by kernel_rfl) (by kernel_rfl) (fun _ _ _ h => h) (Or.inl ⟨by rfl, ?_⟩) trivial ?_
              rotate_left
              · intro w _; go_simp; with_reducible rfl
              try simp only [Act.put, List.setIfInBounds_toArray, List.set_cons_zero, List.set_cons_succ]
              refine wpAnyH_take (i := 6) (oi := { dst := some 67, op := Op.move (Operand.tmp 0), type := 9, pos := "ref.go:49", after := #[{ on := 2, ground := Ground.guard }], guard := some (2, true) }) (v := ?_) rfl (by kernel_rfl) (by kernel_rfl) (by kernel_rfl) (fun _ _ _ h => h) (Or.inl ⟨by rfl, ?_⟩) trivial ?_
              rotate_left
              · intro w _; go_simp; with_reducible rfl
              try simp only [Act.put, List.setIfInBounds_toArray, List.set_cons_zero, List.set_cons_succ]
              refine wpAnyH_take (i := 7) (oi := { dst := some 68, op := Op.move (Operand.tmp 1), type := 3, pos := "ref.go:49", after := #[{ on := 2, ground := Ground.guard }], guard := some (2, true) }) (v := ?_) rfl (by kernel_rfl) (by kernel_rfl) (by kernel_rfl) (fun _ _ _ h => h) (Or.inl ⟨by rfl, ?_⟩) trivial ?_
              rotate_left
              · intro w _; go_simp; with_reducible rfl
              try simp only [Act.put, List.setIfInBounds_toArray, List.set_cons_zero, List.set_cons_succ]
              refine wpAnyH_take (i := 8) (oi := { dst := some 69, op := Op.move (Operand.tmp 1), type := 3, pos := "ref.go:49", after := #[{ on := 2, ground := Ground.guard }], guard := some (2, true) }) (v := ?_) rfl (by kernel_rfl) (by kernel_rfl) (by kernel_rfl) (fun _ _ _ h => h) (Or.inl ⟨by rfl, ?_⟩) trivial ?_
              rotate_left
              · intro w _; go_simp; with_reducible rfl
              try simp only [Act.put, List.setIfInBounds_toArray, List.set_cons_zero, List.set_cons_succ]
              refine wpAnyH_take (i := 9) (oi := { dst := some 70, op := Op.move (Operand.tmp 6), type := 3, pos := "ref.go:49", after := #[{ on := 2, ground := Ground.guard }], guard := some (2, true) }) (v := ?_) rfl (by kernel_rfl) (by kernel_rfl) (by kernel_rfl) (fun _ _ _ h => h) (Or.inl ⟨by rfl, ?_⟩) trivial ?_
              rotate_left
              · intro w _; go_simp; with_reducible rfl
              try simp only [Act.put, List.setIfInBounds_toArray, List.set_cons_zero, List.set_cons_succ]
              refine wpAnyH_take (i := 10) (oi := { dst := some 71, op := Op.binOp BinOp.add 3 (Operand.tmp 69) (Operand.tmp 70) 3, type := 3, pos := "ref.go:49", after := #[{ on := 8, ground := Ground.data }, { on := 9, ground := Ground.data }, { on := 2, ground := Ground.guard }], guard := some (2, true) }) (v := ?_) rfl (by kernel_rfl) (by kernel_rfl) (by kernel_rfl) (fun _ _ _ h => h) (Or.inl ⟨by rfl, ?_⟩) trivial ?_
              rotate_left
              · intro w _; go_simp; with_reducible rfl
              try simp only [Act.put, List.setIfInBounds_toArray, List.set_cons_zero, List.set_cons_succ]
              refine wpAnyH_take (i := 11) (oi := { dst := some 72, op := Op.slice 9 (Operand.tmp 67) (some (Operand.tmp 68)) (some (Operand.tmp 71)) none, type := 9, pos := "ref.go:49", after := #[{ on := 6, ground := Ground.data }, { on := 7, ground := Ground.data }, { on := 10, ground := Ground.data }, { on := 2, ground := Ground.guard }], guard := some (2, true) }) (v := ?_) rfl (by kernel_rfl) (by kernel_rfl) (by kernel_rfl) (fun _ _ _ h => h) (Or.inl ⟨by rfl, ?_⟩) trivial ?_
              rotate_left
              · intro w _; go_simp; with_reducible rfl
              try simp only [Act.put, List.setIfInBounds_toArray, List.set_cons_zero, List.set_cons_succ]
              refine wpAnyH_ready (rs := [4]) (by kernel_rfl) (by simp) (AllReadyH.cons (o := { dst := some 65, op := Op.call { callee := Callee.value (Operand.func 136), args := #[Operand.tmp 64], argTypes := #[3] }, type := 119, pos := "ref.go:49", after := #[{ on := 3, ground := Ground.data }, { on := 2, ground := Ground.chain }, { on := 2, ground := Ground.guard }], guard := some (2, true) }) rfl (fun K hK => ?_) AllReadyH.nil)
              rw [if_pos (by rfl)]
              go_simp
              (refine (hby _).mono ?_; rintro e w1 ⟨v, rfl, hcv, hb⟩)
              refine hK.out _ _ trivial (fun _ => ?_)
              clear hK K
              try simp only [Act.put, List.setIfInBounds_toArray, List.set_cons_zero, List.set_cons_succ]
              refine wpAnyH_ready (rs := [5]) (by kernel_rfl) (by simp) (AllReadyH.cons (o := { dst := some 66, op := Op.convert 119 9 (Operand.tmp 65), type := 9, pos := "ref.go:49", after := #[{ on := 4, ground := Ground.data }, { on := 2, ground := Ground.guard }], guard := some (2, true) }) rfl (fun K hK => ?_) AllReadyH.nil)
              rw [if_pos (by rfl)]
              go_simp
              refine hK.out _ _ trivial (fun _ => ?_)
              clear hK K
              try simp only [Act.put, List.setIfInBounds_toArray, List.set_cons_zero, List.set_cons_succ]
              refine wpAnyH_take (i := 12) (oi := { dst := some 73, op := Op.binOp BinOp.eql 9 (Operand.tmp 66) (Operand.tmp 72) 9, type := 4, pos := "ref.go:49", after := #[{ on := 5, ground := Ground.data }, { on := 11, ground := Ground.data }, { on := 2, ground := Ground.guard }], guard := some (2, true) }) (v := ?_) rfl (by kernel_rfl) (by kernel_rfl) (by kernel_rfl) (fun _ _ _ h => h) (Or.inl ⟨by rfl, ?_⟩) trivial ?_
              rotate_left
              · intro w _; go_simp; with_reducible rfl
              try simp only [Act.put, List.setIfInBounds_toArray, List.set_cons_zero, List.set_cons_succ]
              refine wpAnyH_take (i := 13) (oi := { dst := some 74, op := Op.pick (Operand.tmp 63) (Operand.tmp 73) (Operand.const (Value.bool false)), type := 4, pos := "ref.go:49", after := #[{ on := 2, ground := Ground.data }, { on := 12, ground := Ground.data }], guard := none }) (v := ?_) rfl (by kernel_rfl) (by kernel_rfl) (by kernel_rfl) (fun _ _ _ h => h) (Or.inl ⟨by rfl, ?_⟩) trivial ?_
              rotate_left
              · intro w _; go_simp; with_reducible rfl
              try simp only [Act.put, List.setIfInBounds_toArray, List.set_cons_zero, List.set_cons_succ]
              refine wpAnyH_done (by kernel_rfl) ?_ _
              go_wp2
              refine ⟨⟨k + 1, by go_num, by omega, by omega, Or.inr (by omega), no_more HNO.out HNH.out, below_call hB (by assumption)⟩, ?_⟩
              simp [RowKit.intOf]; omega
          · have HNH : Hid (¬ Hit l k) := by
              unfold Hit
              rw [← HC.out]
              exact fun h => hp h.1
            go_wp2
            go_quiet ((go_at_call 135; exact Calls.quiet_of_same (point_false _ _ hp)))
            go_wp2
            refine ⟨⟨k + 1, by go_num, by omega, by omega, Or.inr (by omega), no_more HNO.out HNH.out, below_draws hB _⟩, ?_⟩
            simp [RowKit.intOf]; omega
        · have hst : ((s[a]'ha).toNat : Int) % 32 = (gather l k 1 : Nat) := start2 l k _ HG0.out hc hc'
          have HST := Lib.hid hst
          clear hst
          have HC : Hid (((gather l k k : Nat) : Int) = candL l k) := by rw [gather_cand l k hk1 hk]; exact Lib.hid rfl
          have hd1 : decide ((1 : Int) < (k : Int)) = true := decide_eq_true (by omega)
          have hd3 : ((k : Int) == 3) = false := by rw [beq_eq_false_iff_ne]; omega
          have hd4 : ((k : Int) == 4) = false := by rw [beq_eq_false_iff_ne]; omega
          go_wp2
          go_loop [8, 9] (fun n i => ∃ j : Nat, i = .int .i64 j ∧ n = .int .i64 (gather l k j : Nat) ∧ 1 ≤ j ∧ j ≤ k) (fun _ i => k - (RowKit.intOf i).toNat)
          case atStart => exact ⟨1, rfl, by rw [← HST.out], Nat.le_refl _, hk1⟩
          case round =>
            obtain ⟨j, rfl, rfl, hj1, hjk⟩ := hrel
            by_cases hlt : (j : Int) < (k : Int)
            · have hbi : ((s[a + j]'(by omega)).toNat : Int) < 256 := by have := (s[a + j]'(by omega)).toNat_lt; omega
              have hgl := gather_le l k j (by omega)
              have HGS : Hid (((gather l k (j + 1) : Nat) : Int) = 64 * (gather l k j : Nat) + ((s[a + j]'(by omega)).toNat : Int) % 64) := by
                rw [gather_succ l k j hj1, HG.out j (by omega)]; simp only [Int.natCast_add, Int.natCast_mul, Int.natCast_emod]; exact Lib.hid rfl
              go_wp2_with (go_at_call 134; refine (low_any _ _).mono ?_; rintro e w' ⟨rfl, rfl⟩)
              go_round
              case rel => exact ⟨j + 1, by go_num, by rw [HGS.out], by omega, by omega⟩
              case measure => simp [RowKit.intOf]; omega
            · obtain rfl : j = k := by omega
              have hgl := gather_le l j j (by omega)
              by_cases hp : IsPoint ((gather l j j : Nat) : Int)
              · by_cases he : encodeRune ((gather l j j : Nat) : Int) = l.take j
                · have hby : ∀ w, Calls Tryz.prog 136 #[.int .i64 ((gather l j j : Nat) : Int)] w fun e w' => ∃ v, e = .returned v ∧ (convert 119 9 v).run Tryz.prog w' = .ok (.string X) w' ∧ Below w.heap.size w w' := fun w => by
                    rw [← HCE.out _ he]; exact bytes_any _ w hp
                  have HH : Hid (headP l = ((gather l j j : Nat) : Int) ∧ headW l = j) := by
                    have h1 : Hit l j := by
                      unfold Hit
                      rw [← HC.out]
                      exact ⟨hp, he⟩
                    have h2 := head_found l j hk1 hk (by rw [HN.out]; omega) h1
                    rw [← HC.out] at h2
                    exact h2
                  clear he
                  go_wp2
                  refine wp_region_held_drew (S := fun _ => True) (by kernel_rfl) trivial (fun hHeld => ?_)
                  refine wpAnyH_take (i := 0) (oi := { dst := some 61, op := Op.move (Operand.tmp 8), type := 3, pos := "ref.go:49", after := #[], guard := none }) (v := ?_) rfl (by kernel_rfl) (by kernel_rfl) (by kernel_rfl) (fun _ _ _ h => h) (Or.inl ⟨by rfl, ?_⟩) trivial ?_
                  rotate_left
                  · intro w _; go_simp; with_reducible rfl
                  try simp only [Act.put, List.setIfInBounds_toArray, List.set_cons_zero, List.set_cons_succ]
                  refine wpAnyH_ready (rs := [1]) (by kernel_rfl) (by simp) (AllReadyH.cons (o := { dst := some 62, op := Op.call { callee := Callee.value (Operand.func 135), args := #[Operand.tmp 61], argTypes := #[3] }, type := 4, pos := "ref.go:49", after := #[{ on := 0, ground := Ground.data }], guard := none }) rfl (fun K hK => ?_) AllReadyH.nil)
                  rw [if_pos (by rfl)]
                  go_simp
                  (refine (point_true _ _ hp).mono ?_; rintro e w' ⟨rfl, rfl⟩)
                  refine hK.out _ _ trivial (fun _ => ?_)
                  clear hK K
                  try simp only [Act.put, List.setIfInBounds_toArray, List.set_cons_zero, List.set_cons_succ]
                  refine wpAnyH_take (i := 2) (oi := { dst := some 63, op := Op.move (Operand.tmp 62), type := 4, pos := "ref.go:49", after := #[{ on := 1, ground := Ground.data }, { on := 1, ground := Ground.chain }], guard := none }) (v := ?_) rfl (by kernel_rfl) (by kernel_rfl) (by kernel_rfl) (fun _ _ _ h => h) (Or.inl ⟨by rfl, ?_⟩) trivial ?_
                  rotate_left
                  · intro w _; go_simp; with_reducible rfl
                  try simp only [Act.put, List.setIfInBounds_toArray, List.set_cons_zero, List.set_cons_succ]
                  refine wpAnyH_take (i := 3) (oi := { dst := some 64, op := Op.move (Operand.tmp 8), type := 3, pos := "ref.go:49", after := #[{ on := 2, ground := Ground.guard }], guard := some (2, true) }) (v := ?_) rfl (by kernel_rfl) (by kernel_rfl) (by kernel_rfl) (fun _ _ _ h => h) (Or.inl ⟨by rfl, ?_⟩) trivial ?_
                  rotate_left
                  · intro w _; go_simp; with_reducible rfl
                  try simp only [Act.put, List.setIfInBounds_toArray, List.set_cons_zero, List.set_cons_succ]
                  refine wpAnyH_take (i := 6) (oi := { dst := some 67, op := Op.move (Operand.tmp 0), type := 9, pos := "ref.go:49", after := #[{ on := 2, ground := Ground.guard }], guard := some (2, true) }) (v := ?_) rfl (by kernel_rfl) (by kernel_rfl) (by kernel_rfl) (fun _ _ _ h => h) (Or.inl ⟨by rfl, ?_⟩) trivial ?_
                  rotate_left
                  · intro w _; go_simp; with_reducible rfl
                  try simp only [Act.put, List.setIfInBounds_toArray, List.set_cons_zero, List.set_cons_succ]
                  refine wpAnyH_take (i := 7) (oi := { dst := some 68, op := Op.move (Operand.tmp 1), type := 3, pos := "ref.go:49", after := #[{ on := 2, ground := Ground.guard }], guard := some (2, true) }) (v := ?_) rfl (by kernel_rfl) (by kernel_rfl) (by kernel_rfl) (fun _ _ _ h => h) (Or.inl ⟨by rfl, ?_⟩) trivial ?_
                  rotate_left
                  · intro w _; go_simp; with_reducible rfl
                  try simp only [Act.put, List.setIfInBounds_toArray, List.set_cons_zero, List.set_cons_succ]
                  refine wpAnyH_take (i := 8) (oi := { dst := some 69, op := Op.move (Operand.tmp 1), type := 3, pos := "ref.go:49", after := #[{ on := 2, ground := Ground.guard }], guard := some (2, true) }) (v := ?_) rfl (by kernel_rfl) (by kernel_rfl) (by kernel_rfl) (fun _ _ _ h => h) (Or.inl ⟨by rfl, ?_⟩) trivial ?_
                  rotate_left
                  · intro w _; go_simp; with_reducible rfl
                  try simp only [Act.put, List.setIfInBounds_toArray, List.set_cons_zero, List.set_cons_succ]
                  refine wpAnyH_take (i := 9) (oi := { dst := some 70, op := Op.move (Operand.tmp 6), type := 3, pos := "ref.go:49", after := #[{ on := 2, ground := Ground.guard }], guard := some (2, true) }) (v := ?_) rfl (by kernel_rfl) (by kernel_rfl) (by kernel_rfl) (fun _ _ _ h => h) (Or.inl ⟨by rfl, ?_⟩) trivial ?_
                  rotate_left
                  · intro w _; go_simp; with_reducible rfl
                  try simp only [Act.put, List.setIfInBounds_toArray, List.set_cons_zero, List.set_cons_succ]
                  refine wpAnyH_take (i := 10) (oi := { dst := some 71, op := Op.binOp BinOp.add 3 (Operand.tmp 69) (Operand.tmp 70) 3, type := 3, pos := "ref.go:49", after := #[{ on := 8, ground := Ground.data }, { on := 9, ground := Ground.data }, { on := 2, ground := Ground.guard }], guard := some (2, true) }) (v := ?_) rfl (by kernel_rfl) (by kernel_rfl) (by kernel_rfl) (fun _ _ _ h => h) (Or.inl ⟨by rfl, ?_⟩) trivial ?_
                  rotate_left
                  · intro w _; go_simp; with_reducible rfl
                  try simp only [Act.put, List.setIfInBounds_toArray, List.set_cons_zero, List.set_cons_succ]
                  refine wpAnyH_take (i := 11) (oi := { dst := some 72, op := Op.slice 9 (Operand.tmp 67) (some (Operand.tmp 68)) (some (Operand.tmp 71)) none, type := 9, pos := "ref.go:49", after := #[{ on := 6, ground := Ground.data }, { on := 7, ground := Ground.data }, { on := 10, ground := Ground.data }, { on := 2, ground := Ground.guard }], guard := some (2, true) }) (v := ?_) rfl (by kernel_rfl) (by kernel_rfl) (by kernel_rfl) (fun _ _ _ h => h) (Or.inl ⟨by rfl, ?_⟩) trivial ?_
                  rotate_left
                  · intro w _; go_simp; with_reducible rfl
                  try simp only [Act.put, List.setIfInBounds_toArray, List.set_cons_zero, List.set_cons_succ]
                  refine wpAnyH_ready (rs := [4]) (by kernel_rfl) (by simp) (AllReadyH.cons (o := { dst := some 65, op := Op.call { callee := Callee.value (Operand.func 136), args := #[Operand.tmp 64], argTypes := #[3] }, type := 119, pos := "ref.go:49", after := #[{ on := 3, ground := Ground.data }, { on := 2, ground := Ground.chain }, { on := 2, ground := Ground.guard }], guard := some (2, true) }) rfl (fun K hK => ?_) AllReadyH.nil)
                  rw [if_pos (by rfl)]
                  go_simp
                  (refine (hby _).mono ?_; rintro e w1 ⟨v, rfl, hcv, hb⟩)
                  refine hK.out _ _ trivial (fun _ => ?_)
                  clear hK K
                  try simp only [Act.put, List.setIfInBounds_toArray, List.set_cons_zero, List.set_cons_succ]
                  refine wpAnyH_ready (rs := [5]) (by kernel_rfl) (by simp) (AllReadyH.cons (o := { dst := some 66, op := Op.convert 119 9 (Operand.tmp 65), type := 9, pos := "ref.go:49", after := #[{ on := 4, ground := Ground.data }, { on := 2, ground := Ground.guard }], guard := some (2, true) }) rfl (fun K hK => ?_) AllReadyH.nil)
                  rw [if_pos (by rfl)]
                  go_simp
                  refine hK.out _ _ trivial (fun _ => ?_)
                  clear hK K
                  try simp only [Act.put, List.setIfInBounds_toArray, List.set_cons_zero, List.set_cons_succ]
                  refine wpAnyH_take (i := 12) (oi := { dst := some 73, op := Op.binOp BinOp.eql 9 (Operand.tmp 66) (Operand.tmp 72) 9, type := 4, pos := "ref.go:49", after := #[{ on := 5, ground := Ground.data }, { on := 11, ground := Ground.data }, { on := 2, ground := Ground.guard }], guard := some (2, true) }) (v := ?_) rfl (by kernel_rfl) (by kernel_rfl) (by kernel_rfl) (fun _ _ _ h => h) (Or.inl ⟨by rfl, ?_⟩) trivial ?_
                  rotate_left
                  · intro w _; go_simp; with_reducible rfl
                  try simp only [Act.put, List.setIfInBounds_toArray, List.set_cons_zero, List.set_cons_succ]
                  refine wpAnyH_take (i := 13) (oi := { dst := some 74, op := Op.pick (Operand.tmp 63) (Operand.tmp 73) (Operand.const (Value.bool false)), type := 4, pos := "ref.go:49", after := #[{ on := 2, ground := Ground.data }, { on := 12, ground := Ground.data }], guard := none }) (v := ?_) rfl (by kernel_rfl) (by kernel_rfl) (by kernel_rfl) (fun _ _ _ h => h) (Or.inl ⟨by rfl, ?_⟩) trivial ?_
                  rotate_left
                  · intro w _; go_simp; with_reducible rfl
                  try simp only [Act.put, List.setIfInBounds_toArray, List.set_cons_zero, List.set_cons_succ]
                  refine wpAnyH_done (by kernel_rfl) ?_ _
                  go_wp2
                  go_ret2
                  exact ⟨ret2_eq HH.out.1.symm HH.out.2.symm, below_call hB (by assumption)⟩
                · have hne := HCN.out _ he
                  have HNH : Hid (¬ Hit l j) := by
                    unfold Hit
                    rw [← HC.out]
                    exact fun h => he h.2
                  have hby : ∀ w, Calls Tryz.prog 136 #[.int .i64 ((gather l j j : Nat) : Int)] w (BytesPost ((gather l j j : Nat) : Int) w) := fun w => bytes_any _ w hp
                  clear he
                  go_wp2
                  refine wp_region_held_drew (S := fun _ => True) (by kernel_rfl) trivial (fun hHeld => ?_)
                  refine wpAnyH_take (i := 0) (oi := { dst := some 61, op := Op.move (Operand.tmp 8), type := 3, pos := "ref.go:49", after := #[], guard := none }) (v := ?_) rfl (by kernel_rfl) (by kernel_rfl) (by kernel_rfl) (fun _ _ _ h => h) (Or.inl ⟨by rfl, ?_⟩) trivial ?_
                  rotate_left
                  · intro w _; go_simp; with_reducible rfl
                  try simp only [Act.put, List.setIfInBounds_toArray, List.set_cons_zero, List.set_cons_succ]
                  refine wpAnyH_ready (rs := [1]) (by kernel_rfl) (by simp) (AllReadyH.cons (o := { dst := some 62, op := Op.call { callee := Callee.value (Operand.func 135), args := #[Operand.tmp 61], argTypes := #[3] }, type := 4, pos := "ref.go:49", after := #[{ on := 0, ground := Ground.data }], guard := none }) rfl (fun K hK => ?_) AllReadyH.nil)
                  rw [if_pos (by rfl)]
                  go_simp
                  (refine (point_true _ _ hp).mono ?_; rintro e w' ⟨rfl, rfl⟩)
                  refine hK.out _ _ trivial (fun _ => ?_)
                  clear hK K
                  try simp only [Act.put, List.setIfInBounds_toArray, List.set_cons_zero, List.set_cons_succ]
                  refine wpAnyH_take (i := 2) (oi := { dst := some 63, op := Op.move (Operand.tmp 62), type := 4, pos := "ref.go:49", after := #[{ on := 1, ground := Ground.data }, { on := 1, ground := Ground.chain }], guard := none }) (v := ?_) rfl (by kernel_rfl) (by kernel_rfl) (by kernel_rfl) (fun _ _ _ h => h) (Or.inl ⟨by rfl, ?_⟩) trivial ?_
                  rotate_left
                  · intro w _; go_simp; with_reducible rfl
                  try simp only [Act.put, List.setIfInBounds_toArray, List.set_cons_zero, List.set_cons_succ]
                  refine wpAnyH_take (i := 3) (oi := { dst := some 64, op := Op.move (Operand.tmp 8), type := 3, pos := "ref.go:49", after := #[{ on := 2, ground := Ground.guard }], guard := some (2, true) }) (v := ?_) rfl (by kernel_rfl) (by kernel_rfl) (by kernel_rfl) (fun _ _ _ h => h) (Or.inl ⟨by rfl, ?_⟩) trivial ?_
                  rotate_left
                  · intro w _; go_simp; with_reducible rfl
                  try simp only [Act.put, List.setIfInBounds_toArray, List.set_cons_zero, List.set_cons_succ]
                  refine wpAnyH_take (i := 6) (oi := { dst := some 67, op := Op.move (Operand.tmp 0), type := 9, pos := "ref.go:49", after := #[{ on := 2, ground := Ground.guard }], guard := some (2, true) }) (v := ?_) rfl (by kernel_rfl) (by kernel_rfl) (by kernel_rfl) (fun _ _ _ h => h) (Or.inl ⟨by rfl, ?_⟩) trivial ?_
                  rotate_left
                  · intro w _; go_simp; with_reducible rfl
                  try simp only [Act.put, List.setIfInBounds_toArray, List.set_cons_zero, List.set_cons_succ]
                  refine wpAnyH_take (i := 7) (oi := { dst := some 68, op := Op.move (Operand.tmp 1), type := 3, pos := "ref.go:49", after := #[{ on := 2, ground := Ground.guard }], guard := some (2, true) }) (v := ?_) rfl (by kernel_rfl) (by kernel_rfl) (by kernel_rfl) (fun _ _ _ h => h) (Or.inl ⟨by rfl, ?_⟩) trivial ?_
                  rotate_left
                  · intro w _; go_simp; with_reducible rfl
                  try simp only [Act.put, List.setIfInBounds_toArray, List.set_cons_zero, List.set_cons_succ]
                  refine wpAnyH_take (i := 8) (oi := { dst := some 69, op := Op.move (Operand.tmp 1), type := 3, pos := "ref.go:49", after := #[{ on := 2, ground := Ground.guard }], guard := some (2, true) }) (v := ?_) rfl (by kernel_rfl) (by kernel_rfl) (by kernel_rfl) (fun _ _ _ h => h) (Or.inl ⟨by rfl, ?_⟩) trivial ?_
                  rotate_left
                  · intro w _; go_simp; with_reducible rfl
                  try simp only [Act.put, List.setIfInBounds_toArray, List.set_cons_zero, List.set_cons_succ]
                  refine wpAnyH_take (i := 9) (oi := { dst := some 70, op := Op.move (Operand.tmp 6), type := 3, pos := "ref.go:49", after := #[{ on := 2, ground := Ground.guard }], guard := some (2, true) }) (v := ?_) rfl (by kernel_rfl) (by kernel_rfl) (by kernel_rfl) (fun _ _ _ h => h) (Or.inl ⟨by rfl, ?_⟩) trivial ?_
                  rotate_left
                  · intro w _; go_simp; with_reducible rfl
                  try simp only [Act.put, List.setIfInBounds_toArray, List.set_cons_zero, List.set_cons_succ]
                  refine wpAnyH_take (i := 10) (oi := { dst := some 71, op := Op.binOp BinOp.add 3 (Operand.tmp 69) (Operand.tmp 70) 3, type := 3, pos := "ref.go:49", after := #[{ on := 8, ground := Ground.data }, { on := 9, ground := Ground.data }, { on := 2, ground := Ground.guard }], guard := some (2, true) }) (v := ?_) rfl (by kernel_rfl) (by kernel_rfl) (by kernel_rfl) (fun _ _ _ h => h) (Or.inl ⟨by rfl, ?_⟩) trivial ?_
                  rotate_left
                  · intro w _; go_simp; with_reducible rfl
                  try simp only [Act.put, List.setIfInBounds_toArray, List.set_cons_zero, List.set_cons_succ]
                  refine wpAnyH_take (i := 11) (oi := { dst := some 72, op := Op.slice 9 (Operand.tmp 67) (some (Operand.tmp 68)) (some (Operand.tmp 71)) none, type := 9, pos := "ref.go:49", after := #[{ on := 6, ground := Ground.data }, { on := 7, ground := Ground.data }, { on := 10, ground := Ground.data }, { on := 2, ground := Ground.guard }], guard := some (2, true) }) (v := ?_) rfl (by kernel_rfl) (by kernel_rfl) (by kernel_rfl) (fun _ _ _ h => h) (Or.inl ⟨by rfl, ?_⟩) trivial ?_
                  rotate_left
                  · intro w _; go_simp; with_reducible rfl
                  try simp only [Act.put, List.setIfInBounds_toArray, List.set_cons_zero, List.set_cons_succ]
                  refine wpAnyH_ready (rs := [4]) (by kernel_rfl) (by simp) (AllReadyH.cons (o := { dst := some 65, op := Op.call { callee := Callee.value (Operand.func 136), args := #[Operand.tmp 64], argTypes := #[3] }, type := 119, pos := "ref.go:49", after := #[{ on := 3, ground := Ground.data }, { on := 2, ground := Ground.chain }, { on := 2, ground := Ground.guard }], guard := some (2, true) }) rfl (fun K hK => ?_) AllReadyH.nil)
                  rw [if_pos (by rfl)]
                  go_simp
                  (refine (hby _).mono ?_; rintro e w1 ⟨v, rfl, hcv, hb⟩)
                  refine hK.out _ _ trivial (fun _ => ?_)
                  clear hK K
                  try simp only [Act.put, List.setIfInBounds_toArray, List.set_cons_zero, List.set_cons_succ]
                  refine wpAnyH_ready (rs := [5]) (by kernel_rfl) (by simp) (AllReadyH.cons (o := { dst := some 66, op := Op.convert 119 9 (Operand.tmp 65), type := 9, pos := "ref.go:49", after := #[{ on := 4, ground := Ground.data }, { on := 2, ground := Ground.guard }], guard := some (2, true) }) rfl (fun K hK => ?_) AllReadyH.nil)
                  rw [if_pos (by rfl)]
                  go_simp
                  refine hK.out _ _ trivial (fun _ => ?_)
                  clear hK K
                  try simp only [Act.put, List.setIfInBounds_toArray, List.set_cons_zero, List.set_cons_succ]
                  refine wpAnyH_take (i := 12) (oi := { dst := some 73, op := Op.binOp BinOp.eql 9 (Operand.tmp 66) (Operand.tmp 72) 9, type := 4, pos := "ref.go:49", after := #[{ on := 5, ground := Ground.data }, { on := 11, ground := Ground.data }, { on := 2, ground := Ground.guard }], guard := some (2, true) }) (v := ?_) rfl (by kernel_rfl) (by kernel_rfl) (by kernel_rfl) (fun _ _ _ h => h) (Or.inl ⟨by rfl, ?_⟩) trivial ?_
                  rotate_left
                  · intro w _; go_simp; with_reducible rfl
                  try simp only [Act.put, List.setIfInBounds_toArray, List.set_cons_zero, List.set_cons_succ]
                  refine wpAnyH_take (i := 13) (oi := { dst := some 74, op := Op.pick (Operand.tmp 63) (Operand.tmp 73) (Operand.const (Value.bool false)), type := 4, pos := "ref.go:49", after := #[{ on := 2, ground := Ground.data }, { on := 12, ground := Ground.data }], guard := none }) (v := ?_) rfl (by kernel_rfl) (by kernel_rfl) (by kernel_rfl) (fun _ _ _ h => h) (Or.inl ⟨by rfl, ?_⟩) trivial ?_
                  rotate_left
                  · intro w _; go_simp; with_reducible rfl
                  try simp only [Act.put, List.setIfInBounds_toArray, List.set_cons_zero, List.set_cons_succ]
                  refine wpAnyH_done (by kernel_rfl) ?_ _
                  go_wp2
                  refine ⟨⟨j + 1, by go_num, by omega, by omega, Or.inr (by omega), no_more HNO.out HNH.out, below_call hB (by assumption)⟩, ?_⟩
                  simp [RowKit.intOf]; omega
              · have HNH : Hid (¬ Hit l j) := by
                  unfold Hit
                  rw [← HC.out]
                  exact fun h => hp h.1
                go_wp2
                go_quiet ((go_at_call 135; exact Calls.quiet_of_same (point_false _ _ hp)))
                go_wp2
                refine ⟨⟨j + 1, by go_num, by omega, by omega, Or.inr (by omega), no_more HNO.out HNH.out, below_draws hB _⟩, ?_⟩
                simp [RowKit.intOf]; omega
        · have hst : ((s[a]'ha).toNat : Int) % 16 = (gather l k 1 : Nat) := start3 l k _ HG0.out hc hc'
          have HST := Lib.hid hst
          clear hst
          have HC : Hid (((gather l k k : Nat) : Int) = candL l k) := by rw [gather_cand l k hk1 hk]; exact Lib.hid rfl
          have hd1 : decide ((1 : Int) < (k : Int)) = true := decide_eq_true (by omega)
          have hd3 : ((k : Int) == 3) = true := by rw [beq_iff_eq]; omega
          have hd4 : ((k : Int) == 4) = false := by rw [beq_eq_false_iff_ne]; omega
          go_wp2
          go_loop [8, 9] (fun n i => ∃ j : Nat, i = .int .i64 j ∧ n = .int .i64 (gather l k j : Nat) ∧ 1 ≤ j ∧ j ≤ k) (fun _ i => k - (RowKit.intOf i).toNat)
          case atStart => exact ⟨1, rfl, by rw [← HST.out], Nat.le_refl _, hk1⟩
          case round =>
            obtain ⟨j, rfl, rfl, hj1, hjk⟩ := hrel
            by_cases hlt : (j : Int) < (k : Int)
            · have hbi : ((s[a + j]'(by omega)).toNat : Int) < 256 := by have := (s[a + j]'(by omega)).toNat_lt; omega
              have hgl := gather_le l k j (by omega)
              have HGS : Hid (((gather l k (j + 1) : Nat) : Int) = 64 * (gather l k j : Nat) + ((s[a + j]'(by omega)).toNat : Int) % 64) := by
                rw [gather_succ l k j hj1, HG.out j (by omega)]; simp only [Int.natCast_add, Int.natCast_mul, Int.natCast_emod]; exact Lib.hid rfl
              go_wp2_with (go_at_call 134; refine (low_any _ _).mono ?_; rintro e w' ⟨rfl, rfl⟩)
              go_round
              case rel => exact ⟨j + 1, by go_num, by rw [HGS.out], by omega, by omega⟩
              case measure => simp [RowKit.intOf]; omega
            · obtain rfl : j = k := by omega
              have hgl := gather_le l j j (by omega)
              by_cases hp : IsPoint ((gather l j j : Nat) : Int)
              · by_cases he : encodeRune ((gather l j j : Nat) : Int) = l.take j
                · have hby : ∀ w, Calls Tryz.prog 136 #[.int .i64 ((gather l j j : Nat) : Int)] w fun e w' => ∃ v, e = .returned v ∧ (convert 119 9 v).run Tryz.prog w' = .ok (.string X) w' ∧ Below w.heap.size w w' := fun w => by
                    rw [← HCE.out _ he]; exact bytes_any _ w hp
                  have HH : Hid (headP l = ((gather l j j : Nat) : Int) ∧ headW l = j) := by
                    have h1 : Hit l j := by
                      unfold Hit
                      rw [← HC.out]
                      exact ⟨hp, he⟩
                    have h2 := head_found l j hk1 hk (by rw [HN.out]; omega) h1
                    rw [← HC.out] at h2
                    exact h2
                  clear he
                  go_wp2
                  refine wp_region_held_drew (S := fun _ => True) (by kernel_rfl) trivial (fun hHeld => ?_)
                  refine wpAnyH_take (i := 0) (oi := { dst := some 61, op := Op.move (Operand.tmp 8), type := 3, pos := "ref.go:49", after := #[], guard := none }) (v := ?_) rfl (by kernel_rfl) (by kernel_rfl) (by kernel_rfl) (fun _ _ _ h => h) (Or.inl ⟨by rfl, ?_⟩) trivial ?_
                  rotate_left
                  · intro w _; go_simp; with_reducible rfl
                  try simp only [Act.put, List.setIfInBounds_toArray, List.set_cons_zero, List.set_cons_succ]
                  refine wpAnyH_ready (rs := [1]) (by kernel_rfl) (by simp) (AllReadyH.cons (o := { dst := some 62, op := Op.call { callee := Callee.value (Operand.func 135), args := #[Operand.tmp 61], argTypes := #[3] }, type := 4, pos := "ref.go:49", after := #[{ on := 0, ground := Ground.data }], guard := none }) rfl (fun K hK => ?_) AllReadyH.nil)
                  rw [if_pos (by rfl)]
                  go_simp
                  (refine (point_true _ _ hp).mono ?_; rintro e w' ⟨rfl, rfl⟩)
                  refine hK.out _ _ trivial (fun _ => ?_)
                  clear hK K
                  try simp only [Act.put, List.setIfInBounds_toArray, List.set_cons_zero, List.set_cons_succ]
                  refine wpAnyH_take (i := 2) (oi := { dst := some 63, op := Op.move (Operand.tmp 62), type := 4, pos := "ref.go:49", after := #[{ on := 1, ground := Ground.data }, { on := 1, ground := Ground.chain }], guard := none }) (v := ?_) rfl (by kernel_rfl) (by kernel_rfl) (by kernel_rfl) (fun _ _ _ h => h) (Or.inl ⟨by rfl, ?_⟩) trivial ?_
                  rotate_left
                  · intro w _; go_simp; with_reducible rfl
                  try simp only [Act.put, List.setIfInBounds_toArray, List.set_cons_zero, List.set_cons_succ]
                  refine wpAnyH_take (i := 3) (oi := { dst := some 64, op := Op.move (Operand.tmp 8), type := 3, pos := "ref.go:49", after := #[{ on := 2, ground := Ground.guard }], guard := some (2, true) }) (v := ?_) rfl (by kernel_rfl) (by kernel_rfl) (by kernel_rfl) (fun _ _ _ h => h) (Or.inl ⟨by rfl, ?_⟩) trivial ?_
                  rotate_left
                  · intro w _; go_simp; with_reducible rfl
                  try simp only [Act.put, List.setIfInBounds_toArray, List.set_cons_zero, List.set_cons_succ]
                  refine wpAnyH_take (i := 6) (oi := { dst := some 67, op := Op.move (Operand.tmp 0), type := 9, pos := "ref.go:49", after := #[{ on := 2, ground := Ground.guard }], guard := some (2, true) }) (v := ?_) rfl (by kernel_rfl) (by kernel_rfl) (by kernel_rfl) (fun _ _ _ h => h) (Or.inl ⟨by rfl, ?_⟩) trivial ?_
                  rotate_left
                  · intro w _; go_simp; with_reducible rfl
                  try simp only [Act.put, List.setIfInBounds_toArray, List.set_cons_zero, List.set_cons_succ]
                  refine wpAnyH_take (i := 7) (oi := { dst := some 68, op := Op.move (Operand.tmp 1), type := 3, pos := "ref.go:49", after := #[{ on := 2, ground := Ground.guard }], guard := some (2, true) }) (v := ?_) rfl (by kernel_rfl) (by kernel_rfl) (by kernel_rfl) (fun _ _ _ h => h) (Or.inl ⟨by rfl, ?_⟩) trivial ?_
                  rotate_left
                  · intro w _; go_simp; with_reducible rfl
                  try simp only [Act.put, List.setIfInBounds_toArray, List.set_cons_zero, List.set_cons_succ]
                  refine wpAnyH_take (i := 8) (oi := { dst := some 69, op := Op.move (Operand.tmp 1), type := 3, pos := "ref.go:49", after := #[{ on := 2, ground := Ground.guard }], guard := some (2, true) }) (v := ?_) rfl (by kernel_rfl) (by kernel_rfl) (by kernel_rfl) (fun _ _ _ h => h) (Or.inl ⟨by rfl, ?_⟩) trivial ?_
                  rotate_left
                  · intro w _; go_simp; with_reducible rfl
                  try simp only [Act.put, List.setIfInBounds_toArray, List.set_cons_zero, List.set_cons_succ]
                  refine wpAnyH_take (i := 9) (oi := { dst := some 70, op := Op.move (Operand.tmp 6), type := 3, pos := "ref.go:49", after := #[{ on := 2, ground := Ground.guard }], guard := some (2, true) }) (v := ?_) rfl (by kernel_rfl) (by kernel_rfl) (by kernel_rfl) (fun _ _ _ h => h) (Or.inl ⟨by rfl, ?_⟩) trivial ?_
                  rotate_left
                  · intro w _; go_simp; with_reducible rfl
                  try simp only [Act.put, List.setIfInBounds_toArray, List.set_cons_zero, List.set_cons_succ]
                  refine wpAnyH_take (i := 10) (oi := { dst := some 71, op := Op.binOp BinOp.add 3 (Operand.tmp 69) (Operand.tmp 70) 3, type := 3, pos := "ref.go:49", after := #[{ on := 8, ground := Ground.data }, { on := 9, ground := Ground.data }, { on := 2, ground := Ground.guard }], guard := some (2, true) }) (v := ?_) rfl (by kernel_rfl) (by kernel_rfl) (by kernel_rfl) (fun _ _ _ h => h) (Or.inl ⟨by rfl, ?_⟩) trivial ?_
                  rotate_left
                  · intro w _; go_simp; with_reducible rfl
                  try simp only [Act.put, List.setIfInBounds_toArray, List.set_cons_zero, List.set_cons_succ]
                  refine wpAnyH_take (i := 11) (oi := { dst := some 72, op := Op.slice 9 (Operand.tmp 67) (some (Operand.tmp 68)) (some (Operand.tmp 71)) none, type := 9, pos := "ref.go:49", after := #[{ on := 6, ground := Ground.data }, { on := 7, ground := Ground.data }, { on := 10, ground := Ground.data }, { on := 2, ground := Ground.guard }], guard := some (2, true) }) (v := ?_) rfl (by kernel_rfl) (by kernel_rfl) (by kernel_rfl) (fun _ _ _ h => h) (Or.inl ⟨by rfl, ?_⟩) trivial ?_
                  rotate_left
                  · intro w _; go_simp; with_reducible rfl
                  try simp only [Act.put, List.setIfInBounds_toArray, List.set_cons_zero, List.set_cons_succ]
                  refine wpAnyH_ready (rs := [4]) (by kernel_rfl) (by simp) (AllReadyH.cons (o := { dst := some 65, op := Op.call { callee := Callee.value (Operand.func 136), args := #[Operand.tmp 64], argTypes := #[3] }, type := 119, pos := "ref.go:49", after := #[{ on := 3, ground := Ground.data }, { on := 2, ground := Ground.chain }, { on := 2, ground := Ground.guard }], guard := some (2, true) }) rfl (fun K hK => ?_) AllReadyH.nil)
                  rw [if_pos (by rfl)]
                  go_simp
                  (refine (hby _).mono ?_; rintro e w1 ⟨v, rfl, hcv, hb⟩)
                  refine hK.out _ _ trivial (fun _ => ?_)
                  clear hK K
                  try simp only [Act.put, List.setIfInBounds_toArray, List.set_cons_zero, List.set_cons_succ]
                  refine wpAnyH_ready (rs := [5]) (by kernel_rfl) (by simp) (AllReadyH.cons (o := { dst := some 66, op := Op.convert 119 9 (Operand.tmp 65), type := 9, pos := "ref.go:49", after := #[{ on := 4, ground := Ground.data }, { on := 2, ground := Ground.guard }], guard := some (2, true) }) rfl (fun K hK => ?_) AllReadyH.nil)
                  rw [if_pos (by rfl)]
                  go_simp
                  refine hK.out _ _ trivial (fun _ => ?_)
                  clear hK K
                  try simp only [Act.put, List.setIfInBounds_toArray, List.set_cons_zero, List.set_cons_succ]
                  refine wpAnyH_take (i := 12) (oi := { dst := some 73, op := Op.binOp BinOp.eql 9 (Operand.tmp 66) (Operand.tmp 72) 9, type := 4, pos := "ref.go:49", after := #[{ on := 5, ground := Ground.data }, { on := 11, ground := Ground.data }, { on := 2, ground := Ground.guard }], guard := some (2, true) }) (v := ?_) rfl (by kernel_rfl) (by kernel_rfl) (by kernel_rfl) (fun _ _ _ h => h) (Or.inl ⟨by rfl, ?_⟩) trivial ?_
                  rotate_left
                  · intro w _; go_simp; with_reducible rfl
                  try simp only [Act.put, List.setIfInBounds_toArray, List.set_cons_zero, List.set_cons_succ]
                  refine wpAnyH_take (i := 13) (oi := { dst := some 74, op := Op.pick (Operand.tmp 63) (Operand.tmp 73) (Operand.const (Value.bool false)), type := 4, pos := "ref.go:49", after := #[{ on := 2, ground := Ground.data }, { on := 12, ground := Ground.data }], guard := none }) (v := ?_) rfl (by kernel_rfl) (by kernel_rfl) (by kernel_rfl) (fun _ _ _ h => h) (Or.inl ⟨by rfl, ?_⟩) trivial ?_
                  rotate_left
                  · intro w _; go_simp; with_reducible rfl
                  try simp only [Act.put, List.setIfInBounds_toArray, List.set_cons_zero, List.set_cons_succ]
                  refine wpAnyH_done (by kernel_rfl) ?_ _
                  go_wp2
                  go_ret2
                  exact ⟨ret2_eq HH.out.1.symm HH.out.2.symm, below_call hB (by assumption)⟩
                · have hne := HCN.out _ he
                  have HNH : Hid (¬ Hit l j) := by
                    unfold Hit
                    rw [← HC.out]
                    exact fun h => he h.2
                  have hby : ∀ w, Calls Tryz.prog 136 #[.int .i64 ((gather l j j : Nat) : Int)] w (BytesPost ((gather l j j : Nat) : Int) w) := fun w => bytes_any _ w hp
                  clear he
                  go_wp2
                  refine wp_region_held_drew (S := fun _ => True) (by kernel_rfl) trivial (fun hHeld => ?_)
                  refine wpAnyH_take (i := 0) (oi := { dst := some 61, op := Op.move (Operand.tmp 8), type := 3, pos := "ref.go:49", after := #[], guard := none }) (v := ?_) rfl (by kernel_rfl) (by kernel_rfl) (by kernel_rfl) (fun _ _ _ h => h) (Or.inl ⟨by rfl, ?_⟩) trivial ?_
                  rotate_left
                  · intro w _; go_simp; with_reducible rfl
                  try simp only [Act.put, List.setIfInBounds_toArray, List.set_cons_zero, List.set_cons_succ]
                  refine wpAnyH_ready (rs := [1]) (by kernel_rfl) (by simp) (AllReadyH.cons (o := { dst := some 62, op := Op.call { callee := Callee.value (Operand.func 135), args := #[Operand.tmp 61], argTypes := #[3] }, type := 4, pos := "ref.go:49", after := #[{ on := 0, ground := Ground.data }], guard := none }) rfl (fun K hK => ?_) AllReadyH.nil)
                  rw [if_pos (by rfl)]
                  go_simp
                  (refine (point_true _ _ hp).mono ?_; rintro e w' ⟨rfl, rfl⟩)
                  refine hK.out _ _ trivial (fun _ => ?_)
                  clear hK K
                  try simp only [Act.put, List.setIfInBounds_toArray, List.set_cons_zero, List.set_cons_succ]
                  refine wpAnyH_take (i := 2) (oi := { dst := some 63, op := Op.move (Operand.tmp 62), type := 4, pos := "ref.go:49", after := #[{ on := 1, ground := Ground.data }, { on := 1, ground := Ground.chain }], guard := none }) (v := ?_) rfl (by kernel_rfl) (by kernel_rfl) (by kernel_rfl) (fun _ _ _ h => h) (Or.inl ⟨by rfl, ?_⟩) trivial ?_
                  rotate_left
                  · intro w _; go_simp; with_reducible rfl
                  try simp only [Act.put, List.setIfInBounds_toArray, List.set_cons_zero, List.set_cons_succ]
                  refine wpAnyH_take (i := 3) (oi := { dst := some 64, op := Op.move (Operand.tmp 8), type := 3, pos := "ref.go:49", after := #[{ on := 2, ground := Ground.guard }], guard := some (2, true) }) (v := ?_) rfl (by kernel_rfl) (by kernel_rfl) (by kernel_rfl) (fun _ _ _ h => h) (Or.inl ⟨by rfl, ?_⟩) trivial ?_
                  rotate_left
                  · intro w _; go_simp; with_reducible rfl
                  try simp only [Act.put, List.setIfInBounds_toArray, List.set_cons_zero, List.set_cons_succ]
                  refine wpAnyH_take (i := 6) (oi := { dst := some 67, op := Op.move (Operand.tmp 0), type := 9, pos := "ref.go:49", after := #[{ on := 2, ground := Ground.guard }], guard := some (2, true) }) (v := ?_) rfl (by kernel_rfl) (by kernel_rfl) (by kernel_rfl) (fun _ _ _ h => h) (Or.inl ⟨by rfl, ?_⟩) trivial ?_
                  rotate_left
                  · intro w _; go_simp; with_reducible rfl
                  try simp only [Act.put, List.setIfInBounds_toArray, List.set_cons_zero, List.set_cons_succ]
                  refine wpAnyH_take (i := 7) (oi := { dst := some 68, op := Op.move (Operand.tmp 1), type := 3, pos := "ref.go:49", after := #[{ on := 2, ground := Ground.guard }], guard := some (2, true) }) (v := ?_) rfl (by kernel_rfl) (by kernel_rfl) (by kernel_rfl) (fun _ _ _ h => h) (Or.inl ⟨by rfl, ?_⟩) trivial ?_
                  rotate_left
                  · intro w _; go_simp; with_reducible rfl
                  try simp only [Act.put, List.setIfInBounds_toArray, List.set_cons_zero, List.set_cons_succ]
                  refine wpAnyH_take (i := 8) (oi := { dst := some 69, op := Op.move (Operand.tmp 1), type := 3, pos := "ref.go:49", after := #[{ on := 2, ground := Ground.guard }], guard := some (2, true) }) (v := ?_) rfl (by kernel_rfl) (by kernel_rfl) (by kernel_rfl) (fun _ _ _ h => h) (Or.inl ⟨by rfl, ?_⟩) trivial ?_
                  rotate_left
                  · intro w _; go_simp; with_reducible rfl
                  try simp only [Act.put, List.setIfInBounds_toArray, List.set_cons_zero, List.set_cons_succ]
                  refine wpAnyH_take (i := 9) (oi := { dst := some 70, op := Op.move (Operand.tmp 6), type := 3, pos := "ref.go:49", after := #[{ on := 2, ground := Ground.guard }], guard := some (2, true) }) (v := ?_) rfl (by kernel_rfl) (by kernel_rfl) (by kernel_rfl) (fun _ _ _ h => h) (Or.inl ⟨by rfl, ?_⟩) trivial ?_
                  rotate_left
                  · intro w _; go_simp; with_reducible rfl
                  try simp only [Act.put, List.setIfInBounds_toArray, List.set_cons_zero, List.set_cons_succ]
                  refine wpAnyH_take (i := 10) (oi := { dst := some 71, op := Op.binOp BinOp.add 3 (Operand.tmp 69) (Operand.tmp 70) 3, type := 3, pos := "ref.go:49", after := #[{ on := 8, ground := Ground.data }, { on := 9, ground := Ground.data }, { on := 2, ground := Ground.guard }], guard := some (2, true) }) (v := ?_) rfl (by kernel_rfl) (by kernel_rfl) (by kernel_rfl) (fun _ _ _ h => h) (Or.inl ⟨by rfl, ?_⟩) trivial ?_
                  rotate_left
                  · intro w _; go_simp; with_reducible rfl
                  try simp only [Act.put, List.setIfInBounds_toArray, List.set_cons_zero, List.set_cons_succ]
                  refine wpAnyH_take (i := 11) (oi := { dst := some 72, op := Op.slice 9 (Operand.tmp 67) (some (Operand.tmp 68)) (some (Operand.tmp 71)) none, type := 9, pos := "ref.go:49", after := #[{ on := 6, ground := Ground.data }, { on := 7, ground := Ground.data }, { on := 10, ground := Ground.data }, { on := 2, ground := Ground.guard }], guard := some (2, true) }) (v := ?_) rfl (by kernel_rfl) (by kernel_rfl) (by kernel_rfl) (fun _ _ _ h => h) (Or.inl ⟨by rfl, ?_⟩) trivial ?_
                  rotate_left
                  · intro w _; go_simp; with_reducible rfl
                  try simp only [Act.put, List.setIfInBounds_toArray, List.set_cons_zero, List.set_cons_succ]
                  refine wpAnyH_ready (rs := [4]) (by kernel_rfl) (by simp) (AllReadyH.cons (o := { dst := some 65, op := Op.call { callee := Callee.value (Operand.func 136), args := #[Operand.tmp 64], argTypes := #[3] }, type := 119, pos := "ref.go:49", after := #[{ on := 3, ground := Ground.data }, { on := 2, ground := Ground.chain }, { on := 2, ground := Ground.guard }], guard := some (2, true) }) rfl (fun K hK => ?_) AllReadyH.nil)
                  rw [if_pos (by rfl)]
                  go_simp
                  (refine (hby _).mono ?_; rintro e w1 ⟨v, rfl, hcv, hb⟩)
                  refine hK.out _ _ trivial (fun _ => ?_)
                  clear hK K
                  try simp only [Act.put, List.setIfInBounds_toArray, List.set_cons_zero, List.set_cons_succ]
                  refine wpAnyH_ready (rs := [5]) (by kernel_rfl) (by simp) (AllReadyH.cons (o := { dst := some 66, op := Op.convert 119 9 (Operand.tmp 65), type := 9, pos := "ref.go:49", after := #[{ on := 4, ground := Ground.data }, { on := 2, ground := Ground.guard }], guard := some (2, true) }) rfl (fun K hK => ?_) AllReadyH.nil)
                  rw [if_pos (by rfl)]
                  go_simp
                  refine hK.out _ _ trivial (fun _ => ?_)
                  clear hK K
                  try simp only [Act.put, List.setIfInBounds_toArray, List.set_cons_zero, List.set_cons_succ]
                  refine wpAnyH_take (i := 12) (oi := { dst := some 73, op := Op.binOp BinOp.eql 9 (Operand.tmp 66) (Operand.tmp 72) 9, type := 4, pos := "ref.go:49", after := #[{ on := 5, ground := Ground.data }, { on := 11, ground := Ground.data }, { on := 2, ground := Ground.guard }], guard := some (2, true) }) (v := ?_) rfl (by kernel_rfl) (by kernel_rfl) (by kernel_rfl) (fun _ _ _ h => h) (Or.inl ⟨by rfl, ?_⟩) trivial ?_
                  rotate_left
                  · intro w _; go_simp; with_reducible rfl
                  try simp only [Act.put, List.setIfInBounds_toArray, List.set_cons_zero, List.set_cons_succ]
                  refine wpAnyH_take (i := 13) (oi := { dst := some 74, op := Op.pick (Operand.tmp 63) (Operand.tmp 73) (Operand.const (Value.bool false)), type := 4, pos := "ref.go:49", after := #[{ on := 2, ground := Ground.data }, { on := 12, ground := Ground.data }], guard := none }) (v := ?_) rfl (by kernel_rfl) (by kernel_rfl) (by kernel_rfl) (fun _ _ _ h => h) (Or.inl ⟨by rfl, ?_⟩) trivial ?_
                  rotate_left
                  · intro w _; go_simp; with_reducible rfl
                  try simp only [Act.put, List.setIfInBounds_toArray, List.set_cons_zero, List.set_cons_succ]
                  refine wpAnyH_done (by kernel_rfl) ?_ _
                  go_wp2
                  refine ⟨⟨j + 1, by go_num, by omega, by omega, Or.inr (by omega), no_more HNO.out HNH.out, below_call hB (by assumption)⟩, ?_⟩
                  simp [RowKit.intOf]; omega
              · have HNH : Hid (¬ Hit l j) := by
                  unfold Hit
                  rw [← HC.out]
                  exact fun h => hp h.1
                go_wp2
                go_quiet ((go_at_call 135; exact Calls.quiet_of_same (point_false _ _ hp)))
                go_wp2
                refine ⟨⟨j + 1, by go_num, by omega, by omega, Or.inr (by omega), no_more HNO.out HNH.out, below_draws hB _⟩, ?_⟩
                simp [RowKit.intOf]; omega
        · have hst : ((s[a]'ha).toNat : Int) % 8 = (gather l k 1 : Nat) := start4 l k _ HG0.out hc hk
          have HST := Lib.hid hst
          clear hst
          have HC : Hid (((gather l k k : Nat) : Int) = candL l k) := by rw [gather_cand l k hk1 hk]; exact Lib.hid rfl
          have hd1 : decide ((1 : Int) < (k : Int)) = true := decide_eq_true (by omega)
          have hd3 : ((k : Int) == 3) = false := by rw [beq_eq_false_iff_ne]; omega
          have hd4 : ((k : Int) == 4) = true := by rw [beq_iff_eq]; omega
          go_wp2
          go_loop [8, 9] (fun n i => ∃ j : Nat, i = .int .i64 j ∧ n = .int .i64 (gather l k j : Nat) ∧ 1 ≤ j ∧ j ≤ k) (fun _ i => k - (RowKit.intOf i).toNat)
          case atStart => exact ⟨1, rfl, by rw [← HST.out], Nat.le_refl _, hk1⟩
          case round =>
            obtain ⟨j, rfl, rfl, hj1, hjk⟩ := hrel
            by_cases hlt : (j : Int) < (k : Int)
            · have hbi : ((s[a + j]'(by omega)).toNat : Int) < 256 := by have := (s[a + j]'(by omega)).toNat_lt; omega
              have hgl := gather_le l k j (by omega)
              have HGS : Hid (((gather l k (j + 1) : Nat) : Int) = 64 * (gather l k j : Nat) + ((s[a + j]'(by omega)).toNat : Int) % 64) := by
                rw [gather_succ l k j hj1, HG.out j (by omega)]; simp only [Int.natCast_add, Int.natCast_mul, Int.natCast_emod]; exact Lib.hid rfl
              go_wp2_with (go_at_call 134; refine (low_any _ _).mono ?_; rintro e w' ⟨rfl, rfl⟩)
              go_round
              case rel => exact ⟨j + 1, by go_num, by rw [HGS.out], by omega, by omega⟩
              case measure => simp [RowKit.intOf]; omega
            · obtain rfl : j = k := by omega
              have hgl := gather_le l j j (by omega)
              by_cases hp : IsPoint ((gather l j j : Nat) : Int)
              · by_cases he : encodeRune ((gather l j j : Nat) : Int) = l.take j
                · have hby : ∀ w, Calls Tryz.prog 136 #[.int .i64 ((gather l j j : Nat) : Int)] w fun e w' => ∃ v, e = .returned v ∧ (convert 119 9 v).run Tryz.prog w' = .ok (.string X) w' ∧ Below w.heap.size w w' := fun w => by
                    rw [← HCE.out _ he]; exact bytes_any _ w hp
                  have HH : Hid (headP l = ((gather l j j : Nat) : Int) ∧ headW l = j) := by
                    have h1 : Hit l j := by
                      unfold Hit
                      rw [← HC.out]
                      exact ⟨hp, he⟩
                    have h2 := head_found l j hk1 hk (by rw [HN.out]; omega) h1
                    rw [← HC.out] at h2
                    exact h2
                  clear he
                  go_wp2
                  refine wp_region_held_drew (S := fun _ => True) (by kernel_rfl) trivial (fun hHeld => ?_)
                  refine wpAnyH_take (i := 0) (oi := { dst := some 61, op := Op.move (Operand.tmp 8), type := 3, pos := "ref.go:49", after := #[], guard := none }) (v := ?_) rfl (by kernel_rfl) (by kernel_rfl) (by kernel_rfl) (fun _ _ _ h => h) (Or.inl ⟨by rfl, ?_⟩) trivial ?_
                  rotate_left
                  · intro w _; go_simp; with_reducible rfl
                  try simp only [Act.put, List.setIfInBounds_toArray, List.set_cons_zero, List.set_cons_succ]
                  refine wpAnyH_ready (rs := [1]) (by kernel_rfl) (by simp) (AllReadyH.cons (o := { dst := some 62, op := Op.call { callee := Callee.value (Operand.func 135), args := #[Operand.tmp 61], argTypes := #[3] }, type := 4, pos := "ref.go:49", after := #[{ on := 0, ground := Ground.data }], guard := none }) rfl (fun K hK => ?_) AllReadyH.nil)
                  rw [if_pos (by rfl)]
                  go_simp
                  (refine (point_true _ _ hp).mono ?_; rintro e w' ⟨rfl, rfl⟩)
                  refine hK.out _ _ trivial (fun _ => ?_)
                  clear hK K
                  try simp only [Act.put, List.setIfInBounds_toArray, List.set_cons_zero, List.set_cons_succ]
                  refine wpAnyH_take (i := 2) (oi := { dst := some 63, op := Op.move (Operand.tmp 62), type := 4, pos := "ref.go:49", after := #[{ on := 1, ground := Ground.data }, { on := 1, ground := Ground.chain }], guard := none }) (v := ?_) rfl (by kernel_rfl) (by kernel_rfl) (by kernel_rfl) (fun _ _ _ h => h) (Or.inl ⟨by rfl, ?_⟩) trivial ?_
                  rotate_left
                  · intro w _; go_simp; with_reducible rfl
                  try simp only [Act.put, List.setIfInBounds_toArray, List.set_cons_zero, List.set_cons_succ]
                  refine wpAnyH_take (i := 3) (oi := { dst := some 64, op := Op.move (Operand.tmp 8), type := 3, pos := "ref.go:49", after := #[{ on := 2, ground := Ground.guard }], guard := some (2, true) }) (v := ?_) rfl (by kernel_rfl) (by kernel_rfl) (by kernel_rfl) (fun _ _ _ h => h) (Or.inl ⟨by rfl, ?_⟩) trivial ?_
                  rotate_left
                  · intro w _; go_simp; with_reducible rfl
                  try simp only [Act.put, List.setIfInBounds_toArray, List.set_cons_zero, List.set_cons_succ]
                  refine wpAnyH_take (i := 6) (oi := { dst := some 67, op := Op.move (Operand.tmp 0), type := 9, pos := "ref.go:49", after := #[{ on := 2, ground := Ground.guard }], guard := some (2, true) }) (v := ?_) rfl (by kernel_rfl) (by kernel_rfl) (by kernel_rfl) (fun _ _ _ h => h) (Or.inl ⟨by rfl, ?_⟩) trivial ?_
                  rotate_left
                  · intro w _; go_simp; with_reducible rfl
                  try simp only [Act.put, List.setIfInBounds_toArray, List.set_cons_zero, List.set_cons_succ]
                  refine wpAnyH_take (i := 7) (oi := { dst := some 68, op := Op.move (Operand.tmp 1), type := 3, pos := "ref.go:49", after := #[{ on := 2, ground := Ground.guard }], guard := some (2, true) }) (v := ?_) rfl (by kernel_rfl) (by kernel_rfl) (by kernel_rfl) (fun _ _ _ h => h) (Or.inl ⟨by rfl, ?_⟩) trivial ?_
                  rotate_left
                  · intro w _; go_simp; with_reducible rfl
                  try simp only [Act.put, List.setIfInBounds_toArray, List.set_cons_zero, List.set_cons_succ]
                  refine wpAnyH_take (i := 8) (oi := { dst := some 69, op := Op.move (Operand.tmp 1), type := 3, pos := "ref.go:49", after := #[{ on := 2, ground := Ground.guard }], guard := some (2, true) }) (v := ?_) rfl (by kernel_rfl) (by kernel_rfl) (by kernel_rfl) (fun _ _ _ h => h) (Or.inl ⟨by rfl, ?_⟩) trivial ?_
                  rotate_left
                  · intro w _; go_simp; with_reducible rfl
                  try simp only [Act.put, List.setIfInBounds_toArray, List.set_cons_zero, List.set_cons_succ]
                  refine wpAnyH_take (i := 9) (oi := { dst := some 70, op := Op.move (Operand.tmp 6), type := 3, pos := "ref.go:49", after := #[{ on := 2, ground := Ground.guard }], guard := some (2, true) }) (v := ?_) rfl (by kernel_rfl) (by kernel_rfl) (by kernel_rfl) (fun _ _ _ h => h) (Or.inl ⟨by rfl, ?_⟩) trivial ?_
                  rotate_left
                  · intro w _; go_simp; with_reducible rfl
                  try simp only [Act.put, List.setIfInBounds_toArray, List.set_cons_zero, List.set_cons_succ]
                  refine wpAnyH_take (i := 10) (oi := { dst := some 71, op := Op.binOp BinOp.add 3 (Operand.tmp 69) (Operand.tmp 70) 3, type := 3, pos := "ref.go:49", after := #[{ on := 8, ground := Ground.data }, { on := 9, ground := Ground.data }, { on := 2, ground := Ground.guard }], guard := some (2, true) }) (v := ?_) rfl (by kernel_rfl) (by kernel_rfl) (by kernel_rfl) (fun _ _ _ h => h) (Or.inl ⟨by rfl, ?_⟩) trivial ?_
                  rotate_left
                  · intro w _; go_simp; with_reducible rfl
                  try simp only [Act.put, List.setIfInBounds_toArray, List.set_cons_zero, List.set_cons_succ]
                  refine wpAnyH_take (i := 11) (oi := { dst := some 72, op := Op.slice 9 (Operand.tmp 67) (some (Operand.tmp 68)) (some (Operand.tmp 71)) none, type := 9, pos := "ref.go:49", after := #[{ on := 6, ground := Ground.data }, { on := 7, ground := Ground.data }, { on := 10, ground := Ground.data }, { on := 2, ground := Ground.guard }], guard := some (2, true) }) (v := ?_) rfl (by kernel_rfl) (by kernel_rfl) (by kernel_rfl) (fun _ _ _ h => h) (Or.inl ⟨by rfl, ?_⟩) trivial ?_
                  rotate_left
                  · intro w _; go_simp; with_reducible rfl
                  try simp only [Act.put, List.setIfInBounds_toArray, List.set_cons_zero, List.set_cons_succ]
                  refine wpAnyH_ready (rs := [4]) (by kernel_rfl) (by simp) (AllReadyH.cons (o := { dst := some 65, op := Op.call { callee := Callee.value (Operand.func 136), args := #[Operand.tmp 64], argTypes := #[3] }, type := 119, pos := "ref.go:49", after := #[{ on := 3, ground := Ground.data }, { on := 2, ground := Ground.chain }, { on := 2, ground := Ground.guard }], guard := some (2, true) }) rfl (fun K hK => ?_) AllReadyH.nil)
                  rw [if_pos (by rfl)]
                  go_simp
                  (refine (hby _).mono ?_; rintro e w1 ⟨v, rfl, hcv, hb⟩)
                  refine hK.out _ _ trivial (fun _ => ?_)
                  clear hK K
                  try simp only [Act.put, List.setIfInBounds_toArray, List.set_cons_zero, List.set_cons_succ]
                  refine wpAnyH_ready (rs := [5]) (by kernel_rfl) (by simp) (AllReadyH.cons (o := { dst := some 66, op := Op.convert 119 9 (Operand.tmp 65), type := 9, pos := "ref.go:49", after := #[{ on := 4, ground := Ground.data }, { on := 2, ground := Ground.guard }], guard := some (2, true) }) rfl (fun K hK => ?_) AllReadyH.nil)
                  rw [if_pos (by rfl)]
                  go_simp
                  refine hK.out _ _ trivial (fun _ => ?_)
                  clear hK K
                  try simp only [Act.put, List.setIfInBounds_toArray, List.set_cons_zero, List.set_cons_succ]
                  refine wpAnyH_take (i := 12) (oi := { dst := some 73, op := Op.binOp BinOp.eql 9 (Operand.tmp 66) (Operand.tmp 72) 9, type := 4, pos := "ref.go:49", after := #[{ on := 5, ground := Ground.data }, { on := 11, ground := Ground.data }, { on := 2, ground := Ground.guard }], guard := some (2, true) }) (v := ?_) rfl (by kernel_rfl) (by kernel_rfl) (by kernel_rfl) (fun _ _ _ h => h) (Or.inl ⟨by rfl, ?_⟩) trivial ?_
                  rotate_left
                  · intro w _; go_simp; with_reducible rfl
                  try simp only [Act.put, List.setIfInBounds_toArray, List.set_cons_zero, List.set_cons_succ]
                  refine wpAnyH_take (i := 13) (oi := { dst := some 74, op := Op.pick (Operand.tmp 63) (Operand.tmp 73) (Operand.const (Value.bool false)), type := 4, pos := "ref.go:49", after := #[{ on := 2, ground := Ground.data }, { on := 12, ground := Ground.data }], guard := none }) (v := ?_) rfl (by kernel_rfl) (by kernel_rfl) (by kernel_rfl) (fun _ _ _ h => h) (Or.inl ⟨by rfl, ?_⟩) trivial ?_
                  rotate_left
                  · intro w _; go_simp; with_reducible rfl
                  try simp only [Act.put, List.setIfInBounds_toArray, List.set_cons_zero, List.set_cons_succ]
                  refine wpAnyH_done (by kernel_rfl) ?_ _
                  go_wp2
                  go_ret2
                  exact ⟨ret2_eq HH.out.1.symm HH.out.2.symm, below_call hB (by assumption)⟩
                · have hne := HCN.out _ he
                  have HNH : Hid (¬ Hit l j) := by
                    unfold Hit
                    rw [← HC.out]
                    exact fun h => he h.2
                  have hby : ∀ w, Calls Tryz.prog 136 #[.int .i64 ((gather l j j : Nat) : Int)] w (BytesPost ((gather l j j : Nat) : Int) w) := fun w => bytes_any _ w hp
                  clear he
                  go_wp2
                  refine wp_region_held_drew (S := fun _ => True) (by kernel_rfl) trivial (fun hHeld => ?_)
                  refine wpAnyH_take (i := 0) (oi := { dst := some 61, op := Op.move (Operand.tmp 8), type := 3, pos := "ref.go:49", after := #[], guard := none }) (v := ?_) rfl (by kernel_rfl) (by kernel_rfl) (by kernel_rfl) (fun _ _ _ h => h) (Or.inl ⟨by rfl, ?_⟩) trivial ?_
                  rotate_left
                  · intro w _; go_simp; with_reducible rfl
                  try simp only [Act.put, List.setIfInBounds_toArray, List.set_cons_zero, List.set_cons_succ]
                  refine wpAnyH_ready (rs := [1]) (by kernel_rfl) (by simp) (AllReadyH.cons (o := { dst := some 62, op := Op.call { callee := Callee.value (Operand.func 135), args := #[Operand.tmp 61], argTypes := #[3] }, type := 4, pos := "ref.go:49", after := #[{ on := 0, ground := Ground.data }], guard := none }) rfl (fun K hK => ?_) AllReadyH.nil)
                  rw [if_pos (by rfl)]
                  go_simp
                  (refine (point_true _ _ hp).mono ?_; rintro e w' ⟨rfl, rfl⟩)
                  refine hK.out _ _ trivial (fun _ => ?_)
                  clear hK K
                  try simp only [Act.put, List.setIfInBounds_toArray, List.set_cons_zero, List.set_cons_succ]
                  refine wpAnyH_take (i := 2) (oi := { dst := some 63, op := Op.move (Operand.tmp 62), type := 4, pos := "ref.go:49", after := #[{ on := 1, ground := Ground.data }, { on := 1, ground := Ground.chain }], guard := none }) (v := ?_) rfl (by kernel_rfl) (by kernel_rfl) (by kernel_rfl) (fun _ _ _ h => h) (Or.inl ⟨by rfl, ?_⟩) trivial ?_
                  rotate_left
                  · intro w _; go_simp; with_reducible rfl
                  try simp only [Act.put, List.setIfInBounds_toArray, List.set_cons_zero, List.set_cons_succ]
                  refine wpAnyH_take (i := 3) (oi := { dst := some 64, op := Op.move (Operand.tmp 8), type := 3, pos := "ref.go:49", after := #[{ on := 2, ground := Ground.guard }], guard := some (2, true) }) (v := ?_) rfl (by kernel_rfl) (by kernel_rfl) (by kernel_rfl) (fun _ _ _ h => h) (Or.inl ⟨by rfl, ?_⟩) trivial ?_
                  rotate_left
                  · intro w _; go_simp; with_reducible rfl
                  try simp only [Act.put, List.setIfInBounds_toArray, List.set_cons_zero, List.set_cons_succ]
                  refine wpAnyH_take (i := 6) (oi := { dst := some 67, op := Op.move (Operand.tmp 0), type := 9, pos := "ref.go:49", after := #[{ on := 2, ground := Ground.guard }], guard := some (2, true) }) (v := ?_) rfl (by kernel_rfl) (by kernel_rfl) (by kernel_rfl) (fun _ _ _ h => h) (Or.inl ⟨by rfl, ?_⟩) trivial ?_
                  rotate_left
                  · intro w _; go_simp; with_reducible rfl
                  try simp only [Act.put, List.setIfInBounds_toArray, List.set_cons_zero, List.set_cons_succ]
                  refine wpAnyH_take (i := 7) (oi := { dst := some 68, op := Op.move (Operand.tmp 1), type := 3, pos := "ref.go:49", after := #[{ on := 2, ground := Ground.guard }], guard := some (2, true) }) (v := ?_) rfl (by kernel_rfl) (by kernel_rfl) (by kernel_rfl) (fun _ _ _ h => h) (Or.inl ⟨by rfl, ?_⟩) trivial ?_
                  rotate_left
                  · intro w _; go_simp; with_reducible rfl
                  try simp only [Act.put, List.setIfInBounds_toArray, List.set_cons_zero, List.set_cons_succ]
                  refine wpAnyH_take (i := 8) (oi := { dst := some 69, op := Op.move (Operand.tmp 1), type := 3, pos := "ref.go:49", after := #[{ on := 2, ground := Ground.guard }], guard := some (2, true) }) (v := ?_) rfl (by kernel_rfl) (by kernel_rfl) (by kernel_rfl) (fun _ _ _ h => h) (Or.inl ⟨by rfl, ?_⟩) trivial ?_
                  rotate_left
                  · intro w _; go_simp; with_reducible rfl
                  try simp only [Act.put, List.setIfInBounds_toArray, List.set_cons_zero, List.set_cons_succ]
                  refine wpAnyH_take (i := 9) (oi := { dst := some 70, op := Op.move (Operand.tmp 6), type := 3, pos := "ref.go:49", after := #[{ on := 2, ground := Ground.guard }], guard := some (2, true) }) (v := ?_) rfl (by kernel_rfl) (by kernel_rfl) (by kernel_rfl) (fun _ _ _ h => h) (Or.inl ⟨by rfl, ?_⟩) trivial ?_
                  rotate_left
                  · intro w _; go_simp; with_reducible rfl
                  try simp only [Act.put, List.setIfInBounds_toArray, List.set_cons_zero, List.set_cons_succ]
                  refine wpAnyH_take (i := 10) (oi := { dst := some 71, op := Op.binOp BinOp.add 3 (Operand.tmp 69) (Operand.tmp 70) 3, type := 3, pos := "ref.go:49", after := #[{ on := 8, ground := Ground.data }, { on := 9, ground := Ground.data }, { on := 2, ground := Ground.guard }], guard := some (2, true) }) (v := ?_) rfl (by kernel_rfl) (by kernel_rfl) (by kernel_rfl) (fun _ _ _ h => h) (Or.inl ⟨by rfl, ?_⟩) trivial ?_
                  rotate_left
                  · intro w _; go_simp; with_reducible rfl
                  try simp only [Act.put, List.setIfInBounds_toArray, List.set_cons_zero, List.set_cons_succ]
                  refine wpAnyH_take (i := 11) (oi := { dst := some 72, op := Op.slice 9 (Operand.tmp 67) (some (Operand.tmp 68)) (some (Operand.tmp 71)) none, type := 9, pos := "ref.go:49", after := #[{ on := 6, ground := Ground.data }, { on := 7, ground := Ground.data }, { on := 10, ground := Ground.data }, { on := 2, ground := Ground.guard }], guard := some (2, true) }) (v := ?_) rfl (by kernel_rfl) (by kernel_rfl) (by kernel_rfl) (fun _ _ _ h => h) (Or.inl ⟨by rfl, ?_⟩) trivial ?_
                  rotate_left
                  · intro w _; go_simp; with_reducible rfl
                  try simp only [Act.put, List.setIfInBounds_toArray, List.set_cons_zero, List.set_cons_succ]
                  refine wpAnyH_ready (rs := [4]) (by kernel_rfl) (by simp) (AllReadyH.cons (o := { dst := some 65, op := Op.call { callee := Callee.value (Operand.func 136), args := #[Operand.tmp 64], argTypes := #[3] }, type := 119, pos := "ref.go:49", after := #[{ on := 3, ground := Ground.data }, { on := 2, ground := Ground.chain }, { on := 2, ground := Ground.guard }], guard := some (2, true) }) rfl (fun K hK => ?_) AllReadyH.nil)
                  rw [if_pos (by rfl)]
                  go_simp
                  (refine (hby _).mono ?_; rintro e w1 ⟨v, rfl, hcv, hb⟩)
                  refine hK.out _ _ trivial (fun _ => ?_)
                  clear hK K
                  try simp only [Act.put, List.setIfInBounds_toArray, List.set_cons_zero, List.set_cons_succ]
                  refine wpAnyH_ready (rs := [5]) (by kernel_rfl) (by simp) (AllReadyH.cons (o := { dst := some 66, op := Op.convert 119 9 (Operand.tmp 65), type := 9, pos := "ref.go:49", after := #[{ on := 4, ground := Ground.data }, { on := 2, ground := Ground.guard }], guard := some (2, true) }) rfl (fun K hK => ?_) AllReadyH.nil)
                  rw [if_pos (by rfl)]
                  go_simp
                  refine hK.out _ _ trivial (fun _ => ?_)
                  clear hK K
                  try simp only [Act.put, List.setIfInBounds_toArray, List.set_cons_zero, List.set_cons_succ]
                  refine wpAnyH_take (i := 12) (oi := { dst := some 73, op := Op.binOp BinOp.eql 9 (Operand.tmp 66) (Operand.tmp 72) 9, type := 4, pos := "ref.go:49", after := #[{ on := 5, ground := Ground.data }, { on := 11, ground := Ground.data }, { on := 2, ground := Ground.guard }], guard := some (2, true) }) (v := ?_) rfl (by kernel_rfl) (by kernel_rfl) (by kernel_rfl) (fun _ _ _ h => h) (Or.inl ⟨by rfl, ?_⟩) trivial ?_
                  rotate_left
                  · intro w _; go_simp; with_reducible rfl
                  try simp only [Act.put, List.setIfInBounds_toArray, List.set_cons_zero, List.set_cons_succ]
                  refine wpAnyH_take (i := 13) (oi := { dst := some 74, op := Op.pick (Operand.tmp 63) (Operand.tmp 73) (Operand.const (Value.bool false)), type := 4, pos := "ref.go:49", after := #[{ on := 2, ground := Ground.data }, { on := 12, ground := Ground.data }], guard := none }) (v := ?_) rfl (by kernel_rfl) (by kernel_rfl) (by kernel_rfl) (fun _ _ _ h => h) (Or.inl ⟨by rfl, ?_⟩) trivial ?_
                  rotate_left
                  · intro w _; go_simp; with_reducible rfl
                  try simp only [Act.put, List.setIfInBounds_toArray, List.set_cons_zero, List.set_cons_succ]
                  refine wpAnyH_done (by kernel_rfl) ?_ _
                  go_wp2
                  refine ⟨⟨j + 1, by go_num, by omega, by omega, Or.inr (by omega), no_more HNO.out HNH.out, below_call hB (by assumption)⟩, ?_⟩
                  simp [RowKit.intOf]; omega
              · have HNH : Hid (¬ Hit l j) := by
                  unfold Hit
                  rw [← HC.out]
                  exact fun h => hp h.1
                go_wp2
                go_quiet ((go_at_call 135; exact Calls.quiet_of_same (point_false _ _ hp)))
                go_wp2
                refine ⟨⟨j + 1, by go_num, by omega, by omega, Or.inr (by omega), no_more HNO.out HNH.out, below_draws hB _⟩, ?_⟩
                simp [RowKit.intOf]; omega
      · have HH : Hid (headP l = -1 ∧ headW l = 1) := head_missed l (by rw [HN.out]; omega) (fun j h1 h2 h3 => HNO.out j h1 (by rw [HN.out] at h3; omega))
        go_wp2
        go_ret2
        exact ⟨ret2_eq HH.out.1.symm HH.out.2.symm, hB⟩
    · have HH : Hid (headP l = -1 ∧ headW l = 1) := head_missed l (by rw [HN.out]; omega) (fun j h1 h2 h3 => HNO.out j h1 (by omega))
      go_wp2
      go_ret2
      exact ⟨ret2_eq HH.out.1.symm HH.out.2.symm, hB⟩
end Go.Proofs.YtcenfckjkboabaaGreatDoor
/- RR2: The walk of the reference's Pieces. -/
namespace Go.Proofs.YtcenfckjkboabaaGreatDoor
open Go.RowKit Go.Proofs.Utf Go.Lib

def rowCells (r : Row) : List Value := [.int .i64 r.from_, .int .i64 r.to_, .int .i64 r.units, .bool r.is_]
def rowsCells (l : List Row) : List Value := l.flatMap rowCells
theorem info57 : (Tryz.prog.info? 143).map (fun i => (i.zero, i.size, i.bytes)) = some (some (.agg #[.int .i64 0, .int .i64 0, .int .i64 0, .bool false]), 4, 32) := by kernel_rfl

theorem own_below {wr w1 : World} {base size n : Nat} {e : TypeId} {v : Value} {xs : List Value} (h : wr.ownsRow base e size v n xs) (hb : Below wr.heap.size wr w1) : w1.ownsRow base e size v n xs := by
  obtain ⟨h1, h2⟩ := h
  refine ⟨h1, ?_⟩
  rcases h2 with h2 | ⟨g, cap, cur, hv, hg, hh, r⟩
  · exact .inl h2
  · exact .inr ⟨g, cap, cur, hv, hg, (hb.block g (Array.getElem?_eq_some_iff.1 hh).1).trans hh, r⟩
theorem rows_step (rows : List Row) (s : ByteArray) (pos : Nat) (T : List Row) (hp : pos < s.size) (h : rows ++ rowsP (from_ s pos) pos = T) :
    (rows ++ [⟨pos, pos + (Utf8.decode s pos).2, wt (Utf8.decode s pos).1, ptP (Utf8.decode s pos).2 (Utf8.decode s pos).1⟩]) ++ rowsP (from_ s (pos + (Utf8.decode s pos).2)) (pos + (Utf8.decode s pos).2) = T := by
  rw [from_step s pos hp] at h
  rw [← h]
  simp [rowsP]
theorem rowsCells_snoc (rows : List Row) (r : Row) : rowsCells (rows ++ [r]) = rowsCells rows ++ rowCells r := by simp [rowsCells]
theorem cells_at_new (w : World) (C : List Value) (t : TypeId) (b : Nat) (hb : b = w.heap.size) : ∀ (j : Nat) (u : Value), C[j]? = some u → (w.alloc (.cells C.toArray t)).cell? ((⟨b, 0, none⟩ : Addr).add j) = some u := by
  subst hb
  intro j u h
  have e : (w.alloc (.cells C.toArray t)).cell? ⟨w.heap.size, j, none⟩ = C.toArray[j]? := World.cell?_alloc_mark w C.toArray t (0, 0) j
  rw [show (Addr.add ⟨w.heap.size, 0, none⟩ j) = ⟨w.heap.size, j, none⟩ by unfold Addr.add; split <;> simp_all, e]
  simpa using h
theorem row_one (a b c : Int) (d : Bool) : ∀ u ∈ [Value.int .i64 a, .int .i64 b, .int .i64 c, .bool d], u.oneCell' = true := by
  intro u hu
  simp at hu
  rcases hu with rfl | rfl | rfl | rfl <;> rfl
theorem own_base {wr : World} {base size n : Nat} {e : TypeId} {v : Value} {xs : List Value} (h : wr.ownsRow base e size v n xs) : ∀ k, v.ownBlock = some k → base ≤ k := by
  intro k hk
  rcases h.2 with ⟨rfl, _⟩ | ⟨g, cap, cur, rfl, hg, _⟩
  · simp [Value.ownBlock] at hk
  · simp [Value.ownBlock] at hk
    omega
theorem below_app {w wr w1 w2 : World} {o1 o2 : Obj} {size n : Nat} {e : TypeId} {v : Value} {xs : List Value} (hB : Below w.heap.size w wr) (hb1 : Below wr.heap.size wr w1)
    (hown : wr.ownsRow w.heap.size e size v n xs) (hg : ((w1.alloc o1).alloc o2).grownBy w2 v.ownBlock) : Below w.heap.size w w2 := by
  have h1 := hB.trans (hb1.mono hB.size)
  exact ((h1.alloc h1.size o1).alloc (by have := h1.size; simp; omega) o2).grown hg (by have := h1.size; simp; omega) (own_base hown)
theorem rows_own {w2 : World} {b : Nat} {v' : Value} {rows : List Row} {a c u : Nat} {d : Bool} {C : List Value} (hown2 : w2.ownsRow b 143 4 v' (rows.length + 1) (rowsCells rows ++ C)) (hC : C = rowCells ⟨a, c, u, d⟩) :
    w2.ownsRow b 143 4 v' (rows ++ [(⟨a, c, u, d⟩ : Row)]).length (rowsCells (rows ++ [(⟨a, c, u, d⟩ : Row)])) := by
  rw [rowsCells_snoc, List.length_append, ← hC]
  exact hown2
set_option maxHeartbeats 1000000 in
set_option maxRecDepth 100000 in
theorem pieces_any (s : ByteArray) (w : World) (hs : s.size ≤ 1048576) :
    Calls Tryz.prog 109 #[.string s] w fun e w' => ∃ v, e = .returned v ∧ w'.ownsRow w.heap.size 143 4 v (pieces s.data.toList).length (rowsCells (rowsP (pieces s.data.toList) 0)) ∧ Below w.heap.size w w' := by
  obtain ⟨i0, hi, hz0, hz1, hz2⟩ := info_parts info57
  go_enter Tryz.func109, Tryz.ntmps109
  go_wp2
  go_loopw [3, 4] (fun v i wr => ∃ (pos : Nat) (rows : List Row), i = .int .i64 pos ∧ pos ≤ s.size ∧ rows.length ≤ pos ∧ rows ++ rowsP (from_ s pos) pos = rowsP (pieces s.data.toList) 0 ∧ wr.ownsRow w.heap.size 143 4 v rows.length (rowsCells rows) ∧ Below w.heap.size w wr)
    (fun _ i _ => s.size - (RowKit.intOf i).toNat)
  case atStart => exact ⟨0, [], rfl, Nat.zero_le _, Nat.le_refl _, by simp [from_], World.ownsRow_nil _ _ _ _, Below.refl _ _⟩
  case round =>
    obtain ⟨pos, rows, rfl, hp0, hlen, hrows, hown, hB⟩ := hrel
    have HR := Lib.hid hrows
    clear hrows
    by_cases hp : (pos : Int) < (s.size : Int)
    · have hle := dec_le s pos (by omega)
      have hpos := dec_pos s pos
      have hcD := refDecode_in s pos wr (by omega) (by omega)
      have hgeq := headP_ge (s.data.toList.drop pos)
      have hle2 := headP_le (s.data.toList.drop pos)
      have hbig := headP_big (s.data.toList.drop pos)
      have HW : Hid (headW (s.data.toList.drop pos) = (Utf8.decode s pos).2) := by unfold headW; rw [decodeL_drop]; exact Lib.hid rfl
      have HD : Hid ((decodeL (s.data.toList.drop pos)).1 = (Utf8.decode s pos).1) := by rw [decodeL_drop]; exact Lib.hid rfl
      rw [HD.out] at hbig
      have hI := isPt_ptP (s.data.toList.drop pos)
      rw [HD.out, HW.out] at hI
      have HI := Lib.hid hI
      rw [HI.out] at hgeq
      rw [HW.out] at hcD
      clear hI
      generalize headP (s.data.toList.drop pos) = P at *
      by_cases hb : (65535 : Int) < P
      · have hwt : (wt (Utf8.decode s pos).1 : Int) = 2 := by
          have := hbig.1 hb
          unfold wt
          rw [if_pos this]; rfl
        have HWT := Lib.hid hwt
        clear hwt hbig
        go_wp2_with (first
          | (go_at_call 122; refine hcD.mono ?_; rintro e w1 ⟨rfl, hb1⟩; have hown1 := own_below hown hb1; have hsz := hb1.size)
          | (at_builtin; refine wpList_append_own _ rfl (.tmp 28) (.tmp 30) 140 rfl w.heap.size 143 i0 (.agg #[.int .i64 0, .int .i64 0, .int .i64 0, .bool false]) 4 32 Tryz.underlying140 hi hz0 hz1 hz2 rfl (by decide) _ _ _ rfl ((hown1.alloc _).alloc _) ⟨w1.heap.size + 1, 0, none⟩ 1 1 [.int .i64 pos, .int .i64 ((pos : Int) + ((Utf8.decode s pos).2 : Int)), .int .i64 2, .bool (ptP (Utf8.decode s pos).2 (Utf8.decode s pos).1)] rfl rfl (cells_at_new _ _ _ _ (by simp)) (row_one _ _ _ _) (by unfold maxLen; omega) (by omega) (by have := hB.size; simp; omega) ?_; intro v' w2 hown2 hgrow2 _))
        refine ⟨⟨pos + (Utf8.decode s pos).2, _, by go_num, hle, ?_, rows_step rows s pos _ (by omega) HR.out, rows_own (a := pos) (c := pos + (Utf8.decode s pos).2) (u := wt (Utf8.decode s pos).1) hown2 (by simp only [rowCells, HWT.out, Int.natCast_add]), below_app hB hb1 hown hgrow2⟩, ?_⟩
        · simp; omega
        · simp [RowKit.intOf]; omega
      · have hwt : (wt (Utf8.decode s pos).1 : Int) = 1 := by
          have := hbig
          unfold wt
          rw [if_neg (fun h => hb (this.2 h))]; rfl
        have HWT := Lib.hid hwt
        clear hwt hbig
        go_wp2_with (first
          | (go_at_call 122; refine hcD.mono ?_; rintro e w1 ⟨rfl, hb1⟩; have hown1 := own_below hown hb1; have hsz := hb1.size)
          | (at_builtin; refine wpList_append_own _ rfl (.tmp 28) (.tmp 30) 140 rfl w.heap.size 143 i0 (.agg #[.int .i64 0, .int .i64 0, .int .i64 0, .bool false]) 4 32 Tryz.underlying140 hi hz0 hz1 hz2 rfl (by decide) _ _ _ rfl ((hown1.alloc _).alloc _) ⟨w1.heap.size + 1, 0, none⟩ 1 1 [.int .i64 pos, .int .i64 ((pos : Int) + ((Utf8.decode s pos).2 : Int)), .int .i64 1, .bool (ptP (Utf8.decode s pos).2 (Utf8.decode s pos).1)] rfl rfl (cells_at_new _ _ _ _ (by simp)) (row_one _ _ _ _) (by unfold maxLen; omega) (by omega) (by have := hB.size; simp; omega) ?_; intro v' w2 hown2 hgrow2 _))
        refine ⟨⟨pos + (Utf8.decode s pos).2, _, by go_num, hle, ?_, rows_step rows s pos _ (by omega) HR.out, rows_own (a := pos) (c := pos + (Utf8.decode s pos).2) (u := wt (Utf8.decode s pos).1) hown2 (by simp only [rowCells, HWT.out, Int.natCast_add]), below_app hB hb1 hown hgrow2⟩, ?_⟩
        · simp; omega
        · simp [RowKit.intOf]; omega
    · have hend := from_end s pos (by omega)
      have HR2 : Hid (rows = rowsP (pieces s.data.toList) 0) := by
        have := HR.out
        rw [hend] at this
        exact Lib.hid (by simpa [rowsP] using this)
      clear hend
      go_wp2
      go_ret
      refine ⟨_, rfl, ?_, hB⟩
      have e1 : (pieces s.data.toList).length = rows.length := by rw [HR2.out, rowsP_length]
      rw [e1, ← HR2.out]
      exact hown
end Go.Proofs.YtcenfckjkboabaaGreatDoor
/- RR3: The walks of the reference's Units, Byte, UnitsAt, Valid. -/
namespace Go.Proofs.YtcenfckjkboabaaGreatDoor
open Go.RowKit Go.Proofs.Utf Go.Lib

theorem row_cell {w : World} {b n g cap : Nat} {rows : List Row} (h : w.ownsRow b 143 4 (.slice (some ⟨g, 0, none⟩) n cap) n (rowsCells rows)) (k : Nat) (hk : k < rows.length) (j : Nat) (hj : j < 4) (u : Value) (hu : (rowCells rows[k])[j]? = some u) :
    w.cell? ⟨g, k * 4 + j, none⟩ = some u := by
  have := h.cells (g := g) rfl (k * 4 + j) u (by rw [rowsCells, flat4 rowCells (fun _ => rfl) rows k hk j hj, hu])
  rwa [show (Addr.add ⟨g, 0, none⟩ (k * 4 + j)) = ⟨g, k * 4 + j, none⟩ by unfold Addr.add; split <;> simp_all] at this
theorem rowsCells_length (rows : List Row) : (rowsCells rows).length = 4 * rows.length := by
  unfold rowsCells
  induction rows with
  | nil => rfl
  | cons r t ih =>
    rw [List.flatMap_cons, List.length_append, ih]
    simp only [rowCells, List.length_cons, List.length_nil]
    omega
theorem row_shape {w : World} {b n : Nat} {v : Value} {rows : List Row} (h : w.ownsRow b 143 4 v n (rowsCells rows)) : (v = .slice none 0 0 ∧ rows = []) ∨ ∃ g cap, v = .slice (some ⟨g, 0, none⟩) n cap ∧ n = rows.length ∧ n ≤ 9223372036854775807 := by
  have hl := rowsCells_length rows
  obtain ⟨h1, h2⟩ := h
  rcases h2 with ⟨hv, h0⟩ | ⟨g, cap, cur, hv, _, _, hc, hm, _⟩
  · refine .inl ⟨hv, ?_⟩
    exact List.eq_nil_of_length_eq_zero (by omega)
  · refine .inr ⟨g, cap, hv, by omega, ?_⟩
    unfold maxLen at hm
    omega
set_option maxHeartbeats 400000 in
theorem refByte_any (s : ByteArray) (want : Int) (w : World) (hs : s.size ≤ 1048576) (h0 : 0 ≤ want) :
    Calls Tryz.prog 138 #[.string s, .int .i64 want] w fun e w' => e = .returned (.int .i64 (byteR (rowsP (pieces s.data.toList) 0) 0 want s.size)) ∧ Below w.heap.size w w' := by
  have hlen := pieces_length _ s.data.toList (Nat.le_refl _)
  rw [← Lib.size_eq] at hlen
  have hu := rowsP_units (pieces s.data.toList) 0
  have hto := rowsP_to (pieces s.data.toList) 0
  rw [widthP_pieces _ _ (Nat.le_refl _), ← Lib.size_eq] at hto
  have hlr := rowsP_length (pieces s.data.toList) 0
  have cP := pieces_any s w hs
  generalize rowsP (pieces s.data.toList) 0 = rows at *
  rw [← hlr] at cP hlen
  clear hlr
  have HU := Lib.hid hu
  have HT := Lib.hid hto
  clear hu hto
  go_enter Tryz.func138, Tryz.ntmps138
  go_wp2_with (go_at_call 109; refine cP.mono ?_; rintro e w1 ⟨v, rfl, hown, hb⟩)
  rcases row_shape hown with ⟨rfl, rfl⟩ | ⟨g, cap, rfl, _, _⟩
  · refine wp_loop_rounds 1 ?_
    rw [rounds_succ]
    go_wp2
    go_ret
    exact ⟨rfl, hb⟩
  · go_loop [6, 7] (fun n i => ∃ k acc : Nat, i = .int .i64 k ∧ n = .int .i64 acc ∧ k ≤ rows.length ∧ acc ≤ 2 * k ∧ byteR (rows.drop k) acc want s.size = byteR rows 0 want s.size) (fun _ i => rows.length - (RowKit.intOf i).toNat)
    case atStart => exact ⟨0, 0, rfl, rfl, Nat.zero_le _, Nat.le_refl _, by simp⟩
    case round =>
      obtain ⟨k, acc, rfl, rfl, hk, hacc, hsum⟩ := hrel
      have HS := Lib.hid hsum
      clear hsum
      by_cases hlt : k < rows.length
      · have hcell := row_cell hown k hlt 2 (by omega) _ rfl
        have hcell0 : w1.cell? ⟨g, k * 4, none⟩ = some (.int .i64 rows[k].from_) := row_cell hown k hlt 0 (by omega) _ rfl
        have hle := HU.out rows[k] (List.getElem_mem hlt)
        have HH : Hid (byteR rows 0 want s.size = if (acc : Int) ≤ want ∧ want < (acc : Int) + rows[k].units then rows[k].from_ else byteR (rows.drop (k + 1)) (acc + rows[k].units) want s.size) := by
          rw [← HS.out, drop_at rows k hlt]; exact Lib.hid rfl
        clear HS
        by_cases h1 : (acc : Int) ≤ want
        · by_cases h2 : want < (acc : Int) + (rows[k].units : Int)
          · have HF := Lib.hid (HH.out.trans (if_pos ⟨h1, h2⟩))
            go_wp2
            go_ret
            exact ⟨ret_nat HF.out.symm, hb⟩
          · have HF := Lib.hid (HH.out.trans (if_neg (fun h => h2 h.2)))
            go_wp2
            refine ⟨⟨k + 1, acc + rows[k].units, by go_num, by go_num, hlt, by omega, HF.out.symm⟩, ?_⟩
            simp [RowKit.intOf]; omega
        · have HF := Lib.hid (HH.out.trans (if_neg (fun h => h1 h.1)))
          go_wp2
          refine ⟨⟨k + 1, acc + rows[k].units, by go_num, by go_num, hlt, by omega, HF.out.symm⟩, ?_⟩
          simp [RowKit.intOf]; omega
      · obtain rfl : k = rows.length := by omega
        have HF : Hid (s.size = byteR rows 0 want s.size) := by
          have := HS.out
          rw [List.drop_length] at this
          exact this
        go_wp2
        go_ret
        exact ⟨ret_nat HF.out, hb⟩
theorem refByte_neg (s : ByteArray) (want : Int) (w : World) (h0 : want < 0) :
    Calls Tryz.prog 138 #[.string s, .int .i64 want] w fun e w' => e = .returned (.int .i64 0) ∧ w' = w := by
  go_enter Tryz.func138, Tryz.ntmps138
  go_wp2
  go_ret
  exact ⟨rfl, rfl⟩
set_option maxHeartbeats 400000 in
theorem refValid_any (s : ByteArray) (w : World) (hs : s.size ≤ 1048576) :
    Calls Tryz.prog 90 #[.string s] w fun e w' => e = .returned (.bool (validR (rowsP (pieces s.data.toList) 0))) ∧ Below w.heap.size w w' := by
  have hlen := pieces_length _ s.data.toList (Nat.le_refl _)
  rw [← Lib.size_eq] at hlen
  have hu := rowsP_units (pieces s.data.toList) 0
  have hto := rowsP_to (pieces s.data.toList) 0
  rw [widthP_pieces _ _ (Nat.le_refl _), ← Lib.size_eq] at hto
  have hlr := rowsP_length (pieces s.data.toList) 0
  have cP := pieces_any s w hs
  generalize rowsP (pieces s.data.toList) 0 = rows at *
  rw [← hlr] at cP hlen
  clear hlr
  have HU := Lib.hid hu
  have HT := Lib.hid hto
  clear hu hto
  go_enter Tryz.func90, Tryz.ntmps90
  go_wp2_with (go_at_call 109; refine cP.mono ?_; rintro e w1 ⟨v, rfl, hown, hb⟩)
  rcases row_shape hown with ⟨rfl, rfl⟩ | ⟨g, cap, rfl, _, _⟩
  · refine wp_loop_rounds 1 ?_
    rw [rounds_succ]
    go_wp2
    go_ret
    exact ⟨rfl, hb⟩
  · go_loop [4] (fun i => ∃ k : Nat, i = .int .i64 k ∧ k ≤ rows.length ∧ validR (rows.drop k) = validR rows) (fun i => rows.length - (RowKit.intOf i).toNat)
    case atStart => exact ⟨0, rfl, Nat.zero_le _, by simp⟩
    case round =>
      obtain ⟨k, rfl, hk, hsum⟩ := hrel
      have HS := Lib.hid hsum
      clear hsum
      by_cases hlt : k < rows.length
      · have hcell := row_cell hown k hlt 3 (by omega) _ rfl
        have HH : Hid ((rows[k].is_ && validR (rows.drop (k + 1))) = validR rows) := by
          rw [← HS.out, drop_at rows k hlt]; exact Lib.hid rfl
        clear HS
        cases hi : rows[k].is_ with
        | true =>
          rw [hi] at hcell
          have HF : Hid (validR (rows.drop (k + 1)) = validR rows) := by
            have := HH.out
            rw [hi, Bool.true_and] at this
            exact this
          clear hi
          go_wp2
          refine ⟨⟨k + 1, by go_num, hlt, HF.out⟩, ?_⟩
          simp [RowKit.intOf]; omega
        | false =>
          rw [hi] at hcell
          have HF : Hid (false = validR rows) := by
            have := HH.out
            rw [hi, Bool.false_and] at this
            exact this
          clear hi
          go_wp2
          go_ret
          exact ⟨by rw [← HF.out]; rfl, hb⟩
      · obtain rfl : k = rows.length := by omega
        have HF : Hid (true = validR rows) := by
          have := HS.out
          rw [List.drop_length] at this
          exact this
        go_wp2
        go_ret
        exact ⟨by rw [← HF.out]; rfl, hb⟩
end Go.Proofs.YtcenfckjkboabaaGreatDoor
/- RX9: The reference's Lines. -/
namespace Go.Proofs.YtcenfckjkboabaaGreatDoor
open Go.RowKit Go.Proofs.Utf Go.Lib

def crAt (s : ByteArray) : Nat → Bool
  | 0 => false
  | j + 1 => s.data.toList[j]? == some 13
theorem crAt_succ (s : ByteArray) (i : Nat) (hp : i < s.size) : crAt s (i + 1) = (s[i]'hp == 13) := by
  show (s.data.toList[i]? == some 13) = _
  rw [data_getElem? s i hp]
  rfl
theorem ll_step (s : ByteArray) (i f : Nat) (hp : i < s.size) : linesP (s.data.toList.drop i) (crAt s i) f i =
    if crAt s i && s[i]'hp == 10 then linesP (s.data.toList.drop (i + 1)) (crAt s (i + 1)) (i + 1) (i + 1)
    else if s[i]'hp == 10 || s[i]'hp == 13 then (f, i) :: linesP (s.data.toList.drop (i + 1)) (crAt s (i + 1)) (i + 1) (i + 1)
    else linesP (s.data.toList.drop (i + 1)) (crAt s (i + 1)) f (i + 1) := by
  have hd : s.data.toList.drop i = s[i]'hp :: s.data.toList.drop (i + 1) := by
    have hl : i < s.data.toList.length := by rw [← size_eq]; exact hp
    rw [List.drop_eq_getElem_cons hl]
    congr 1
  rw [hd, crAt_succ s i hp]
  simp only [linesP]
  split
  · next h =>
    have h10 : s[i]'hp = 10 := by simp at h; exact h.2
    rw [h10]
    rfl
  · split
    · rfl
    · next h =>
      have h13 : (s[i]'hp == 13) = false := by simp at h; simp; exact h.2
      rw [h13]
theorem ll_end (s : ByteArray) (f : Nat) (c : Bool) : linesP (s.data.toList.drop s.size) c f s.size = [(f, s.size)] := by
  rw [List.drop_eq_nil_of_le (by rw [← size_eq]; exact Nat.le_refl _)]
  rfl
def lnCells (l : List (Nat × Nat)) : List Value := l.flatMap (fun x => [Value.int .i64 (x.1 : Int), Value.int .i64 (x.2 : Int)])
theorem lnCells_snoc (l : List (Nat × Nat)) (a b : Nat) : lnCells (l ++ [(a, b)]) = lnCells l ++ [Value.int .i64 (a : Int), Value.int .i64 (b : Int)] := by simp [lnCells]
theorem info30 : (Tryz.prog.info? 190).map (fun i => (i.zero, i.size, i.bytes)) = some (some (.agg #[.int .i64 0, .int .i64 0]), 2, 16) := by kernel_rfl
theorem ln_one (a b : Int) : ∀ u ∈ [Value.int .i64 a, .int .i64 b], u.oneCell' = true := by
  intro u hu
  simp at hu
  rcases hu with rfl | rfl <;> rfl
theorem ln_own {w2 : World} {b : Nat} {v' : Value} {l : List (Nat × Nat)} {x y : Nat} (h : w2.ownsRow b 190 2 v' (l.length + 1) (lnCells l ++ [Value.int .i64 (x : Int), Value.int .i64 (y : Int)])) :
    w2.ownsRow b 190 2 v' (l ++ [(x, y)]).length (lnCells (l ++ [(x, y)])) := by
  rw [lnCells_snoc, List.length_append]
  exact h

set_option maxHeartbeats 2000000 in
set_option maxRecDepth 100000 in
theorem refLines_any (s : ByteArray) (w : World) (hs : s.size ≤ 1048576) :
    Calls Tryz.prog 137 #[.string s] w fun e w' => ∃ v, e = .returned v ∧ w'.ownsRow w.heap.size 190 2 v (linesL s.data.toList).length (lnCells (linesL s.data.toList)) ∧ Below w.heap.size w w' := by
  obtain ⟨i0, hi, hz0, hz1, hz2⟩ := info_parts info30
  go_enter Tryz.func137, Tryz.ntmps137
  go_wp2
  go_loopw [3, 4, 5] (fun v f i wr => ∃ (pos fr : Nat) (rows : List (Nat × Nat)), f = .int .i64 fr ∧ i = .int .i64 pos ∧ pos ≤ s.size ∧ fr ≤ pos ∧ rows.length ≤ pos ∧ rows ++ linesP (s.data.toList.drop pos) (crAt s pos) fr pos = linesL s.data.toList ∧ wr.ownsRow w.heap.size 190 2 v rows.length (lnCells rows) ∧ Below w.heap.size w wr)
    (fun _ _ i _ => s.size - (RowKit.intOf i).toNat)
  case atStart => exact ⟨0, 0, [], rfl, rfl, Nat.zero_le _, Nat.le_refl _, Nat.le_refl _, rfl, World.ownsRow_nil _ _ _ _, Below.refl _ _⟩
  case round =>
    obtain ⟨pos, fr, rows, rfl, rfl, hp0, hfr, hlen, hrows, hown, hB⟩ := hrel
    have HR := Lib.hid hrows
    clear hrows
    by_cases hp : pos < s.size
    · have HS := Lib.hid (ll_step s pos fr hp)
      have hpi : (pos : Int) < (s.size : Int) := by omega
      by_cases h10 : s[pos]'hp = 10
      · by_cases hz : pos = 0
        · have hzi : ¬ (0 : Int) < (pos : Int) := by omega
          have hcr : crAt s pos = false := by rw [hz]; rfl
          clear hz
          have HS2 := Lib.hid (show rows ++ ((fr, pos) :: linesP (s.data.toList.drop (pos + 1)) (crAt s (pos + 1)) (pos + 1) (pos + 1)) = linesL s.data.toList by have := HR.out; rw [HS.out, if_neg (by simp [hcr]), if_pos (by simp [h10])] at this; exact this)
          go_wp2_with (at_builtin; refine wpList_append_own _ rfl (.tmp 39) (.tmp 43) 187 rfl w.heap.size 190 i0 (.agg #[.int .i64 0, .int .i64 0]) 2 16 Tryz.underlying187 hi hz0 hz1 hz2 rfl (by decide) _ _ _ rfl (hown.alloc _) ⟨wr.heap.size, 0, none⟩ 1 1 [.int .i64 fr, .int .i64 (pos : Int)] rfl rfl (cells_at_new _ _ _ _ (by simp)) (ln_one _ _) (by unfold maxLen; omega) (by omega) (by have := hB.size; simp; omega) ?_; intro v' w2 hown2 hgrow2 _)
          go_roundw
          case rel => exact ⟨pos + 1, pos + 1, rows ++ [(fr, pos)], by go_num, by go_num, by omega, Nat.le_refl _, by rw [List.length_append, List.length_singleton]; omega, by rw [List.append_assoc]; exact HS2.out, ln_own (by simpa using hown2), (hB.alloc hB.size _).grown hgrow2 (by have := hB.size; simp; omega) (own_base hown)⟩
          case measure => simp [RowKit.intOf]; omega
        · obtain ⟨j, rfl⟩ : ∃ j, pos = j + 1 := ⟨pos - 1, by omega⟩
          have hj : j < s.size := by omega
          have hcj := crAt_succ s j hj
          by_cases h13 : s[j]'hj = 13
          · have hcr : crAt s (j + 1) = true := by rw [hcj, h13]; rfl
            have HS2 := Lib.hid (show rows ++ linesP (s.data.toList.drop ((j + 1) + 1)) (crAt s ((j + 1) + 1)) (j + 1 + 1) ((j + 1) + 1) = linesL s.data.toList by have := HR.out; rw [HS.out, if_pos (by simp [hcr, h10])] at this; exact this)
            go_wp2
            go_roundw
            case rel => exact ⟨(j + 1) + 1, (j + 1 + 1), rows, by go_num, by go_num, by omega, by omega, by omega, HS2.out, hown, hB⟩
            case measure => simp [RowKit.intOf]; omega
          · have hcr : crAt s (j + 1) = false := by rw [hcj]; simp [h13]
            have hne : ((s[j]'hj).toNat : Int) ≠ 13 := fun e => h13 (UInt8.toNat_inj.1 (by simpa using Int.ofNat.inj e))
            have hne' : (((s[j]'hj).toNat : Int) == 13) = false := beq_eq_false_iff_ne.2 hne
            have HS2 := Lib.hid (show rows ++ ((fr, (j + 1)) :: linesP (s.data.toList.drop ((j + 1) + 1)) (crAt s ((j + 1) + 1)) ((j + 1) + 1) ((j + 1) + 1)) = linesL s.data.toList by have := HR.out; rw [HS.out, if_neg (by simp [hcr]), if_pos (by simp [h10])] at this; exact this)
            go_wp2_with (at_builtin; refine wpList_append_own _ rfl (.tmp 39) (.tmp 43) 187 rfl w.heap.size 190 i0 (.agg #[.int .i64 0, .int .i64 0]) 2 16 Tryz.underlying187 hi hz0 hz1 hz2 rfl (by decide) _ _ _ rfl (hown.alloc _) ⟨wr.heap.size, 0, none⟩ 1 1 [.int .i64 fr, .int .i64 ((j : Int) + 1)] rfl rfl (cells_at_new _ _ _ _ (by simp)) (ln_one _ _) (by unfold maxLen; omega) (by omega) (by have := hB.size; simp; omega) ?_; intro v' w2 hown2 hgrow2 _)
            go_roundw
            case rel => exact ⟨(j + 1) + 1, (j + 1) + 1, rows ++ [(fr, (j + 1))], by go_num, by go_num, by omega, Nat.le_refl _, by rw [List.length_append, List.length_singleton]; omega, by rw [List.append_assoc]; exact HS2.out, ln_own (by simpa using hown2), (hB.alloc hB.size _).grown hgrow2 (by have := hB.size; simp; omega) (own_base hown)⟩
            case measure => simp [RowKit.intOf]; omega
      · have hne10 : (((s[pos]'hp).toNat : Int) == 10) = false := beq_eq_false_iff_ne.2 (fun e => h10 (UInt8.toNat_inj.1 (by simpa using Int.ofNat.inj e)))
        by_cases h13 : s[pos]'hp = 13
        · have HS2 := Lib.hid (show rows ++ ((fr, pos) :: linesP (s.data.toList.drop (pos + 1)) (crAt s (pos + 1)) (pos + 1) (pos + 1)) = linesL s.data.toList by have := HR.out; rw [HS.out, if_neg (by simp [h13]), if_pos (by simp [h13])] at this; exact this)
          go_wp2_with (at_builtin; refine wpList_append_own _ rfl (.tmp 39) (.tmp 43) 187 rfl w.heap.size 190 i0 (.agg #[.int .i64 0, .int .i64 0]) 2 16 Tryz.underlying187 hi hz0 hz1 hz2 rfl (by decide) _ _ _ rfl (hown.alloc _) ⟨wr.heap.size, 0, none⟩ 1 1 [.int .i64 fr, .int .i64 (pos : Int)] rfl rfl (cells_at_new _ _ _ _ (by simp)) (ln_one _ _) (by unfold maxLen; omega) (by omega) (by have := hB.size; simp; omega) ?_; intro v' w2 hown2 hgrow2 _)
          go_roundw
          case rel => exact ⟨pos + 1, pos + 1, rows ++ [(fr, pos)], by go_num, by go_num, by omega, Nat.le_refl _, by rw [List.length_append, List.length_singleton]; omega, by rw [List.append_assoc]; exact HS2.out, ln_own (by simpa using hown2), (hB.alloc hB.size _).grown hgrow2 (by have := hB.size; simp; omega) (own_base hown)⟩
          case measure => simp [RowKit.intOf]; omega
        · have hne13 : (((s[pos]'hp).toNat : Int) == 13) = false := beq_eq_false_iff_ne.2 (fun e => h13 (UInt8.toNat_inj.1 (by simpa using Int.ofNat.inj e)))
          have HS2 := Lib.hid (show rows ++ linesP (s.data.toList.drop (pos + 1)) (crAt s (pos + 1)) fr (pos + 1) = linesL s.data.toList by have := HR.out; rw [HS.out, if_neg (by simp [h10]), if_neg (by simp [h10, h13])] at this; exact this)
          go_wp2
          go_roundw
          case rel => exact ⟨pos + 1, fr, rows, by go_num, by go_num, by omega, by omega, by omega, HS2.out, hown, hB⟩
          case measure => simp [RowKit.intOf]; omega
    · obtain rfl : pos = s.size := by omega
      have HE := Lib.hid (show rows ++ [(fr, s.size)] = linesL s.data.toList by have := HR.out; rw [ll_end] at this; exact this)
      go_wp2_with (at_builtin; refine wpList_append_own _ rfl (.tmp 47) (.tmp 52) 187 rfl w.heap.size 190 i0 (.agg #[.int .i64 0, .int .i64 0]) 2 16 Tryz.underlying187 hi hz0 hz1 hz2 rfl (by decide) _ _ _ rfl (hown.alloc _) ⟨wr.heap.size, 0, none⟩ 1 1 [.int .i64 fr, .int .i64 (s.size : Int)] rfl rfl (cells_at_new _ _ _ _ (by simp)) (ln_one _ _) (by unfold maxLen; omega) (by omega) (by have := hB.size; simp; omega) ?_; intro v' w2 hown2 hgrow2 _)
      go_ret
      refine ⟨_, rfl, ?_, (hB.alloc hB.size _).grown hgrow2 (by have := hB.size; simp; omega) (own_base hown)⟩
      have := ln_own (l := rows) (x := fr) (y := s.size) (by simpa using hown2)
      rw [HE.out] at this
      exact this
end Go.Proofs.YtcenfckjkboabaaGreatDoor
/- RZ1: LinesRows: the law's walk. -/
namespace Go.Proofs.YtcenfckjkboabaaGreatDoor
open Go.RowKit Go.Proofs.Utf Go.Lib

theorem flat2 {α β : Type} (f : α → List β) (hf : ∀ a, (f a).length = 2) : ∀ (l : List α) (k : Nat) (h : k < l.length) (j : Nat), j < 2 → (l.flatMap f)[k * 2 + j]? = (f l[k])[j]?
  | [], k, h, _, _ => by simp at h
  | a :: l, 0, _, j, hj => by
    simp only [List.flatMap_cons, Nat.zero_mul, Nat.zero_add, List.getElem_cons_zero]
    rw [List.getElem?_append_left (by rw [hf]; exact hj)]
  | a :: l, k + 1, h, j, hj => by
    simp only [List.flatMap_cons, List.getElem_cons_succ]
    rw [List.getElem?_append_right (by rw [hf]; omega), hf, show (k + 1) * 2 + j - 2 = k * 2 + j from by omega]
    exact flat2 f hf l k (by simpa using h) j hj
/-- the cells of a list of lines -/
def LnAt (w : World) (g : Nat) (l : List (Nat × Nat)) : Prop := g < w.heap.size ∧ ∀ (k : Nat) (hk : k < l.length), w.cell? ⟨g, k * 2, none⟩ = some (.int .i64 (l[k].1 : Int)) ∧ w.cell? ⟨g, k * 2 + 1, none⟩ = some (.int .i64 (l[k].2 : Int))
theorem LnAt.below {w w' : World} {g : Nat} {l : List (Nat × Nat)} (h : LnAt w g l) (hb : Below w.heap.size w w') : LnAt w' g l :=
  ⟨Nat.lt_of_lt_of_le h.1 hb.size, fun k hk => ⟨(hb.cell (p := ⟨g, k * 2, none⟩) h.1).trans (h.2 k hk).1, (hb.cell (p := ⟨g, k * 2 + 1, none⟩) h.1).trans (h.2 k hk).2⟩⟩
theorem lnCells_length (l : List (Nat × Nat)) : (lnCells l).length = 2 * l.length := by
  unfold lnCells
  induction l with
  | nil => rfl
  | cons r t ih =>
    rw [List.flatMap_cons, List.length_append, ih]
    simp only [List.length_cons, List.length_nil]
    omega
theorem ln_shape {w : World} {b : Nat} {v : Value} {l : List (Nat × Nat)} (h : w.ownsRow b 190 2 v l.length (lnCells l)) (hl : 1 ≤ l.length) : ∃ g cap, v = .slice (some ⟨g, 0, none⟩) l.length cap ∧ LnAt w g l := by
  have hc := lnCells_length l
  have h' := h
  obtain ⟨h1, h2⟩ := h
  rcases h2 with ⟨hv, h0⟩ | ⟨g, cap, cur, hv, hg, hh, _⟩
  · omega
  · refine ⟨g, cap, hv, (Array.getElem?_eq_some_iff.1 hh).1, fun k hk => ?_⟩
    subst hv
    have hx : ∀ j u, j < 2 → [Value.int .i64 (l[k].1 : Int), Value.int .i64 (l[k].2 : Int)][j]? = some u → w.cell? ⟨g, k * 2 + j, none⟩ = some u := fun j u hj hu => by
      have := h'.cells (g := g) rfl (k * 2 + j) u (by rw [lnCells, flat2 _ (fun _ => rfl) l k hk j hj, hu])
      rwa [show (Addr.add ⟨g, 0, none⟩ (k * 2 + j)) = ⟨g, k * 2 + j, none⟩ by unfold Addr.add; split <;> simp_all] at this
    exact ⟨hx 0 _ (by omega) rfl, hx 1 _ (by omega) rfl⟩
theorem refLines_at (s : ByteArray) (w : World) (hs : s.size ≤ 1048576) :
    Calls Tryz.prog 137 #[.string s] w fun e w' => ∃ g cap, e = .returned (.slice (some ⟨g, 0, none⟩) (linesL s.data.toList).length cap) ∧ LnAt w' g (linesL s.data.toList) ∧ Below w.heap.size w w' := by
  refine (refLines_any s w hs).mono ?_
  rintro e w' ⟨v, rfl, ho, hb⟩
  obtain ⟨g, cap, rfl, hg⟩ := ln_shape ho (linesP_pos _ _ _ _)
  exact ⟨g, cap, rfl, hg, hb⟩

end Go.Proofs.YtcenfckjkboabaaGreatDoor
/- RX6: emend/lines.At: the Pos of a place. -/
namespace Go.Proofs.YtcenfckjkboabaaGreatDoor
open Go.RowKit Go.Shelf Go.Proofs.Utf Go.Lib
theorem Two.lt {W : World} {B : Nat} {t : TypeId} {a b : Int} (h : Two W B t a b) : B < W.heap.size := (Array.getElem?_eq_some_iff.1 h).1
theorem Two.kept {W W' : World} {row : Option Nat} {B : Nat} {t : TypeId} {a b : Int} (h : Two W B t a b) (hg : W.grownBy W' row) (hne : some B ≠ row) : Two W' B t a b := (hg.block B h.lt hne).trans h
theorem Two.alloc {W : World} {B : Nat} {t : TypeId} {a b : Int} (h : Two W B t a b) (o : Obj) : Two (W.alloc o) B t a b := h.kept (World.grownBy_alloc W o none) (by simp)
end Go.Proofs.YtcenfckjkboabaaGreatDoor
/- RZ4: The reference's Offset and Cut; LinesCuts' walk. -/
namespace Go.Proofs.YtcenfckjkboabaaGreatDoor
open Go.RowKit Go.Proofs.Utf Go.Lib

theorem refByte_P (s : ByteArray) (b : Int) (w : World) (hs : s.size ≤ 1048576) (h0 : 0 ≤ b) :
    Calls Tryz.prog 138 #[.string s, .int .i64 b] w fun e w' => e = .returned (.int .i64 (byteP (pieces s.data.toList) 0 0 b)) ∧ Below w.heap.size w w' := by
  have h := refByte_any s b w hs h0
  have e := byte_eq (pieces s.data.toList) 0 0 b h0
  rw [widthP_pieces _ _ (Nat.le_refl _), ← size_eq, Nat.zero_add] at e
  rw [e] at h
  exact h
set_option maxRecDepth 100000 in
set_option maxHeartbeats 2000000 in
theorem refOffset_any (s : ByteArray) (a b : Int) (w : World) (hs : s.size ≤ 1048576) :
    Calls Tryz.prog 123 #[.string s, .agg #[.int .i64 a, .int .i64 b]] w fun e w' => e = .returned (.tuple #[.int .i64 (offP s a b).1, .int .i64 (offP s a b).2]) ∧ Below w.heap.size w w' := by
  by_cases ha : a < 0
  · have ho : offP s a b = (0, 2) := if_pos (.inl ha)
    rw [ho]
    go_enter Tryz.func123, Tryz.ntmps123
    go_wp2
    go_ret2
    exact ⟨rfl, (Below.refl _ _).alloc (Nat.le_refl _) _⟩
  by_cases hb : b < 0
  · have ho : offP s a b = (0, 2) := if_pos (.inr hb)
    rw [ho]
    go_enter Tryz.func123, Tryz.ntmps123
    go_wp2
    go_ret2
    exact ⟨rfl, (Below.refl _ _).alloc (Nat.le_refl _) _⟩
  have ho : offP s a b = match lineAt (linesL s.data.toList) a with
    | none => ((s.size : Int), 0)
    | some x => ((x.1 : Int) + byteP (pieces (lineB s x).data.toList) 0 0 b, 0) := if_neg (by omega)
  have c11 := fun w => refLines_at s w hs
  have hlen := linesP_length s.data.toList false 0 0
  rw [← size_eq] at hlen
  change (linesL s.data.toList).length ≤ s.size + 1 at hlen
  have hW0 : Below w.heap.size w (w.alloc (.cells #[.int .i64 a, .int .i64 b] 74)) := (Below.refl _ w).alloc (Nat.le_refl _) _
  have hcell : ∀ w1, Below (w.alloc (.cells #[.int .i64 a, .int .i64 b] 74)).heap.size (w.alloc (.cells #[.int .i64 a, .int .i64 b] 74)) w1 → Two w1 w.heap.size 74 a b := fun w1 hw1 => (hw1.block _ (by simp)).trans (Two.at (w := w) 74 a b rfl)
  have hin := fun x => @lineAt_in s a x
  generalize linesL s.data.toList = L at *
  cases hl : lineAt L a with
  | none =>
    rw [hl] at ho
    dsimp only at ho
    rw [ho]
    have hge : (L.length : Int) ≤ a := by
      unfold lineAt at hl
      rw [if_pos (by omega)] at hl
      have := List.getElem?_eq_none_iff.1 hl
      omega
    go_enter Tryz.func123, Tryz.ntmps123
    go_wp2_with (go_at_call 137; refine (c11 _).mono ?_; rintro e w1 ⟨g, cap, rfl, hg1, hw1⟩; have t1 := hcell w1 hw1; have d0 := t1.c0; have d1 := t1.c1)
    go_ret2
    exact ⟨rfl, hW0.trans (hw1.mono hW0.size)⟩
  | some x =>
    rw [hl] at ho
    dsimp only at ho
    rw [ho]
    have hx := hin x hl
    obtain ⟨k, rfl⟩ : ∃ k : Nat, a = k := ⟨a.toNat, by omega⟩
    unfold lineAt at hl
    rw [if_pos (by omega), Int.toNat_natCast] at hl
    obtain ⟨hk, hLk⟩ := List.getElem?_eq_some_iff.1 hl
    have hz := lineB_size s x
    have hby := byteP_le (pieces (lineB s x).data.toList) 0 0 b
    rw [widthP_pieces _ _ (Nat.le_refl _), ← size_eq, hz] at hby
    have c31 := fun w => refByte_P (lineB s x) b w (by omega) (by omega)
    obtain ⟨y, hy⟩ : ∃ y, byteP (pieces (lineB s x).data.toList) 0 0 b = y := ⟨_, rfl⟩
    rw [hy] at hby c31 ⊢
    have hwr : IntKind.i64.wrap ((x.1 : Int) + (y : Int)) = (x.1 : Int) + (y : Int) := IntWalk.i64_in _ (by omega)
    clear hl hin
    have hki : (k : Int) < (L.length : Int) := by omega
    go_enter Tryz.func123, Tryz.ntmps123
    go_wp2_with (go_at_call 137; refine (c11 _).mono ?_; rintro e w1 ⟨g, cap, rfl, hg1, hw1⟩; have t1 := hcell w1 hw1; have d0 := t1.c0; have d1 := t1.c1; have hgk := hg1.2 k hk; rw [hLk] at hgk; obtain ⟨e0, e1⟩ := hgk; have hB1 := hW0.trans (hw1.mono hW0.size))
    obtain ⟨W1, hW1⟩ : ∃ W1, w1.alloc (.cells #[.int .i64 (x.1 : Int), .int .i64 (x.2 : Int)] 190) = W1 := ⟨_, rfl⟩
    have t30 : Two W1 w1.heap.size 190 x.1 x.2 := by rw [← hW1]; exact Two.at 190 _ _ rfl
    have t35 : Two W1 w.heap.size 74 k b := by rw [← hW1]; exact t1.alloc _
    have hB2 : Below w.heap.size w W1 := by rw [← hW1]; exact hB1.alloc hB1.size _
    rw [hW1]
    clear hW1 d0 d1 e0 e1 hB1 hg1 hw1 hcell
    have f0 := t30.c0; have f1 := t30.c1; have f2 := t35.c1
    go_region_held3 (fun v => v.cell? ⟨w1.heap.size, 0, none⟩ = some (.int .i64 (x.1 : Int)) ∧ v.cell? ⟨w1.heap.size, 1, none⟩ = some (.int .i64 (x.2 : Int)) ∧ v.cell? ⟨w.heap.size, 1, none⟩ = some (.int .i64 b)) (first | assumption | exact ⟨f0, f1, f2⟩ | exact ⟨by assumption, by assumption, by assumption⟩) ((go_at_call 138; refine (c31 _).mono ?_; rintro e w2 ⟨rfl, hw2⟩; have k0 := (hw2.cell (p := ⟨w1.heap.size, 0, none⟩) t30.lt).trans f0; have k1 := (hw2.cell (p := ⟨w1.heap.size, 1, none⟩) t30.lt).trans f1; have k2 := (hw2.cell (p := ⟨w.heap.size, 1, none⟩) t35.lt).trans f2; have hB3 := hB2.drew.trans (hw2.mono hB2.size)))
    go_wp2
    go_ret2
    exact ⟨rfl, by assumption⟩
set_option maxRecDepth 100000 in
set_option maxHeartbeats 800000 in
theorem refCut_any (s : ByteArray) (a b c d : Int) (w : World) (hs : s.size ≤ 1048576) :
    Calls Tryz.prog 110 #[.string s, .agg #[.int .i64 a, .int .i64 b, .int .i64 c, .int .i64 d]] w fun e w' => e = .returned (.tuple #[.int .i64 (cutP s a b c d).1, .int .i64 (cutP s a b c d).2.1, .int .i64 (cutP s a b c d).2.2]) ∧ Below w.heap.size w w' := by
  have hB0 : Below w.heap.size w (w.alloc (.cells #[.int .i64 a, .int .i64 b, .int .i64 c, .int .i64 d] 76)) := (Below.refl _ w).alloc (Nat.le_refl _) _
  have hc0 : (w.alloc (.cells #[.int .i64 a, .int .i64 b, .int .i64 c, .int .i64 d] 76)).heap[w.heap.size]? = some (.cells #[.int .i64 a, .int .i64 b, .int .i64 c, .int .i64 d] 76) := World.alloc_heap_new w _
  have c1 := fun w => refOffset_any s a b w hs
  have c2 := fun w => refOffset_any s c d w hs
  unfold cutP
  generalize offP s a b = A at *
  generalize offP s c d = B at *
  obtain ⟨m, e⟩ := A
  obtain ⟨n, f⟩ := B
  have hk : ∀ w1, Below (w.alloc (.cells #[.int .i64 a, .int .i64 b, .int .i64 c, .int .i64 d] 76)).heap.size (w.alloc (.cells #[.int .i64 a, .int .i64 b, .int .i64 c, .int .i64 d] 76)) w1 →
      w1.cell? ⟨w.heap.size, 2, none⟩ = some (.int .i64 c) ∧ w1.cell? ⟨w.heap.size, 3, none⟩ = some (.int .i64 d) := fun w1 hw1 => by
    have h1 : w1.heap[w.heap.size]? = some (.cells #[.int .i64 a, .int .i64 b, .int .i64 c, .int .i64 d] 76) := (hw1.block _ (by simp)).trans hc0
    constructor <;> simp [World.cell?, h1]
  by_cases he : e = 0
  · subst he
    by_cases hf : f = 0
    · subst hf
      by_cases hmn : n < m
      · have hcond : (((0 : Int) ≠ 0) ∨ ((0 : Int) ≠ 0) ∨ n < m) := .inr (.inr hmn)
        simp only [if_pos hcond]
        go_enter Tryz.func110, Tryz.ntmps110
        go_wp2_with (first
          | (go_at_call 123; (with_reducible refine (c1 _).mono ?_); rintro e1 w1 ⟨rfl, hw1⟩; obtain ⟨k2, k3⟩ := hk w1 hw1)
          | (go_at_call 123; (with_reducible refine (c2 _).mono ?_); rintro e2 w2 ⟨rfl, hw2⟩))
        go_ret3
        exact ⟨rfl, (hB0.trans (hw1.mono hB0.size)).trans (hw2.mono (Nat.le_trans hB0.size hw1.size))⟩
      · have hcond : ¬ (((0 : Int) ≠ 0) ∨ ((0 : Int) ≠ 0) ∨ n < m) := by simp; omega
        simp only [if_neg hcond]
        go_enter Tryz.func110, Tryz.ntmps110
        go_wp2_with (first
          | (go_at_call 123; (with_reducible refine (c1 _).mono ?_); rintro e1 w1 ⟨rfl, hw1⟩; obtain ⟨k2, k3⟩ := hk w1 hw1)
          | (go_at_call 123; (with_reducible refine (c2 _).mono ?_); rintro e2 w2 ⟨rfl, hw2⟩))
        go_ret3
        exact ⟨rfl, (hB0.trans (hw1.mono hB0.size)).trans (hw2.mono (Nat.le_trans hB0.size hw1.size))⟩
    · have hcond : (((0 : Int) ≠ 0) ∨ (f ≠ 0) ∨ n < m) := .inr (.inl hf)
      simp only [if_pos hcond]
      have hfb : (f == 0) = false := beq_eq_false_iff_ne.2 hf
      go_enter Tryz.func110, Tryz.ntmps110
      go_wp2_with (first
        | (go_at_call 123; (with_reducible refine (c1 _).mono ?_); rintro e1 w1 ⟨rfl, hw1⟩; obtain ⟨k2, k3⟩ := hk w1 hw1)
        | (go_at_call 123; (with_reducible refine (c2 _).mono ?_); rintro e2 w2 ⟨rfl, hw2⟩))
      go_ret3
      exact ⟨rfl, (hB0.trans (hw1.mono hB0.size)).trans (hw2.mono (Nat.le_trans hB0.size hw1.size))⟩
  · have hcond : ((e ≠ 0) ∨ (f ≠ 0) ∨ n < m) := .inl he
    simp only [if_pos hcond]
    have heb : (e == 0) = false := beq_eq_false_iff_ne.2 he
    go_enter Tryz.func110, Tryz.ntmps110
    go_wp2_with (first
      | (go_at_call 123; (with_reducible refine (c1 _).mono ?_); rintro e1 w1 ⟨rfl, hw1⟩; obtain ⟨k2, k3⟩ := hk w1 hw1)
      | (go_at_call 123; (with_reducible refine (c2 _).mono ?_); rintro e2 w2 ⟨rfl, hw2⟩))
    go_ret3
    exact ⟨rfl, (hB0.trans (hw1.mono hB0.size)).trans (hw2.mono (Nat.le_trans hB0.size hw1.size))⟩

end Go.Proofs.YtcenfckjkboabaaGreatDoor
