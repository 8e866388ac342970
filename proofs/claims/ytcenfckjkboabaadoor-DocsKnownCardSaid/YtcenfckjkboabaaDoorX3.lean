/- emend/lines.each: the iterator over a text's lines hands its caller's body each line in turn. -/
import Derived.Test.YtcenfckjkboabaaDoorX2
import Derived.RangeFuncBox
import Derived.RangeFuncNested
import Derived.RangeFuncFrom
import Derived.RangeFuncLeaves
import Derived.RangeFuncCalls
import Derived.Shelf.Abstract
import Derived.Shelf.RegionOpen
import Derived.WalkKit
import Derived.OwnWalkIn
import Derived.TacticsInMore
import Derived.LoopNIn
import Derived.LoopIn
namespace Go.Proofs.YtcenfckjkboabaaDoor
open Go.RowKit Go.Shelf Go.Proofs.Utf Go.Lib

attribute [local go_sem] Oper.semAt_some

/-- a line of a text of n bytes: where it begins and ends -/
abbrev Ln (n : Nat) := { x : Nat × Nat // x.1 ≤ x.2 ∧ x.2 ≤ n }
abbrev Ln.encs {n : Nat} (x : Ln n) : Array Value := #[.int .i64 (x.1.1 : Int), .int .i64 (x.1.2 : Int)]
def lns (s : ByteArray) : List (Ln s.size) := (linesL s.data.toList).pmap Subtype.mk (fun x hx => by
  have := linesP_in s.data.toList false 0 0 (Nat.le_refl _) x hx
  rw [size_eq]
  omega)
theorem lns_val (s : ByteArray) : (lns s).map (·.1) = linesL s.data.toList := by
  unfold lns
  rw [List.map_pmap]
  exact List.pmap_eq_self.2 (fun _ _ => rfl)

set_option maxHeartbeats 1000000 in
theorem each_any (s : ByteArray) (w : World) :
    Calls Tryd.prog 87 #[.string s] w fun e w' => e = .returned (.func (.func 94) #[] #[.pointer (some ⟨w.heap.size, 0, none⟩)]) ∧ w' = w.alloc (.cells #[.string s] 9) := by
  go_enter Tryd.func87, Tryd.ntmps87
  go_wp2
  go_ret
  exact ⟨rfl, rfl⟩

/-- the box of the text keeps it -/
def Kp (Bs : Nat) (A B : World) : Prop := ∀ v, Boxed A Bs 9 v → Boxed B Bs 9 v
theorem Kp.refl (Bs : Nat) (A : World) : Kp Bs A A := fun _ h => h
theorem Kp.trans {Bs : Nat} {A B C : World} (h : Kp Bs A B) (k : Kp Bs B C) : Kp Bs A C := fun v hv => k v (h v hv)
theorem kp_b {Bs : Nat} (W : World) (l : Nat) (o o' : Obj) (h : W.heap[l]? = some o) (hc : o.isCells = false) : Kp Bs W (W.putObj l o') := fun v hv =>
  hv.kept (grownBy_putObj' W l o') (fun e => by cases e; rw [show W.heap[Bs]? = _ from hv] at h; cases h; cases hc)
theorem kp_below {Bs : Nat} {A B : World} (h : Below A.heap.size A B) : Kp Bs A B := fun _v hv => (h.block Bs hv.lt).trans hv
theorem grown_of {A C : World} (h : Below A.heap.size A C) : A.grownBy C none := ⟨h.os, h.tape, h.output, h.size, fun i hi _ => h.block i hi⟩
theorem cut_list (s : ByteArray) (a : Nat) : (s.extract a s.size).data.toList = s.data.toList.drop a := by
  have h1 : s.data.toList.length = s.size := by rw [← size_eq]
  simp [ByteArray.data_extract, List.take_of_length_le, h1]
theorem cut_size (s : ByteArray) (a : Nat) : (s.extract a s.size).size ≤ s.size := by
  simp
theorem cons_of {n : Nat} {rest : List (Ln n)} {y : Nat × Nat} {t : List (Nat × Nat)} (h : rest.map (·.1) = y :: t) : ∃ (x : Ln n) (rest' : List (Ln n)), rest = x :: rest' ∧ x.1 = y ∧ rest'.map (·.1) = t := by
  cases rest with
  | nil => simp at h
  | cons x r => exact ⟨x, r, rfl, (List.cons.inj h).1, (List.cons.inj h).2⟩
theorem prefix_two (l : List UInt8) (h : hasPrefix l [13, 10] = true) : 2 ≤ l.length := by
  match l, h with
  | [], h => simp [hasPrefix, List.isPrefixOf] at h
  | [x], h => simp [hasPrefix, List.isPrefixOf] at h
  | x :: y :: t, _ => simp
theorem lns_length (s : ByteArray) : (lns s).length ≤ s.size + 1 := by
  have h1 := linesP_length s.data.toList false 0 0
  have h2 := congrArg List.length (lns_val s)
  rw [List.length_map] at h2
  rw [h2, size_eq]
  exact h1

set_option maxRecDepth 1000000 in
set_option maxHeartbeats 8000000 in
theorem each1_in (s : ByteArray) (hs : s.size < 4294967281) (n l Bs : Nat) (hn : 1 ≤ n) (J Jx : List (Ln s.size) → World → Prop)
    (hY : ∀ pre x W, J pre W → pre.length < s.size + 1 → YieldAt Fence.wide (n - 1) Tryd.prog l (Ln.encs x) W fun e W' =>
      (e = .returned (.bool true) ∧ J (pre ++ [x]) W' ∧ Kp Bs W W') ∨ (e = .returned (.bool false) ∧ Jx (pre ++ [x]) W'))
    (W : World) (hBs : Boxed W Bs 9 (.string s)) (hJa : AbidesFrom W.heap.size J) (h0 : J [] W) :
    CallsIn Fence.wide n Tryd.prog 94 #[.func (.yield l) #[] #[], .pointer (some ⟨Bs, 0, none⟩)] W fun e W' => (∃ v, e = .returned v) ∧
      ((∃ ys, ys = lns s ∧ J ys W') ∨ (∃ pre, pre <+: lns s ∧ Jx pre W')) := by
  refine callsIn_of_wp Tryd.func94 rfl trivial ?_ rfl
  simp only [Tryd.ntmps94, List.size_toArray, List.length_cons, List.length_nil, Nat.reduceAdd, Nat.reduceSub, Array.replicate_succ, Array.replicate_zero, List.push_toArray, List.append_toArray, List.nil_append, List.cons_append]
  gi_wp2
  gi_loopw [3] (fun f wr => ∃ (pre rest : List (Ln s.size)) (a : Nat), f = .int .i64 a ∧ a ≤ s.size ∧ lns s = pre ++ rest ∧ rest.map (·.1) = linesP (s.data.toList.drop a) false a a ∧ J pre wr ∧ Boxed wr Bs 9 (.string s))
    (fun f _ => s.size + 1 - (RowKit.intOf f).toNat)
  case atStart => exact ⟨[], lns s, 0, rfl, Nat.zero_le _, rfl, lns_val s, h0, hBs⟩
  case round =>
    obtain ⟨pre, rest, a, rfl, ha, hl, hr, hJ, hB⟩ := hrel
    have hc := hB.cell
    have hlen : rest ≠ [] → pre.length < s.size + 1 := fun hne => by
      have h1 := lns_length s
      have h2 := congrArg List.length hl
      rw [List.length_append] at h2
      have := List.length_pos_iff.2 hne
      omega
    obtain ⟨k, hk⟩ : ∃ k, indexAny (s.data.toList.drop a) [13, 10] = k := ⟨_, rfl⟩
    have hnew : ∀ w1, Below wr.heap.size wr w1 → J pre w1 ∧ Boxed w1 Bs 9 (.string s) ∧ w1.cell? ⟨Bs, 0, none⟩ = some (.string s) := fun w1 hw1 =>
      have hb1 : Boxed w1 Bs 9 (.string s) := kp_below hw1 _ hB
      ⟨hJa pre wr w1 none hJ (grown_of hw1) (fun r e => by cases e), hb1, hb1.cell⟩
    by_cases hk0 : k < 0
    · have hkm : k = -1 := by have := indexAny_ge [13, 10] (s.data.toList.drop a); omega
      subst hkm
      have hone := lines_none _ a a hk
      rw [hone, List.length_drop, ← size_eq, show a + (s.size - a) = s.size by omega] at hr
      obtain ⟨x, rfl, hx⟩ : ∃ x : Ln s.size, rest = [x] ∧ x.1 = (a, s.size) := by
        match rest, hr with
        | [], hr => simp at hr
        | [x], hr => exact ⟨x, rfl, by simpa using hr⟩
        | x :: y :: t, hr => simp at hr
      have hxe : Ln.encs x = #[.int .i64 (a : Int), .int .i64 (s.size : Int)] := by simp [Ln.encs, hx]
      have hlen' := hlen (by simp)
      gi_wp2_with (refine ⟨trivial, ?_⟩; gi_at_call 95; refine (callsIn_wide.2 (indexAny_any _ _ (by have := cut_size s a; omega))).mono ?_; rintro e w1 ⟨rfl, hw1⟩; rw [cut_list, hk]; obtain ⟨hJ1, hB1, hc1⟩ := hnew w1 hw1; obtain ⟨fn, tmps, assign, body, hy, hR⟩ := hY pre x w1 hJ1 hlen'; rw [hxe] at hy)
      refine hR.mono ?_
      rintro e W3 (⟨rfl, hJ3, hk3⟩ | ⟨rfl, hJx3⟩)
      · gi_wp2
        refine bodyPost_ret (results_none rfl _ _ _) rfl ?_
        exact ⟨⟨_, rfl⟩, .inl ⟨_, hl.symm, hJ3⟩⟩
      · gi_wp2
        refine bodyPost_ret (results_none rfl _ _ _) rfl ?_
        exact ⟨⟨_, rfl⟩, .inr ⟨_, ⟨[], by rw [hl]; simp⟩, hJx3⟩⟩
    · obtain ⟨j, rfl⟩ : ∃ j : Nat, k = j := ⟨k.toNat, by omega⟩
      obtain ⟨hjl, he⟩ := lines_hit _ a a j hk
      rw [List.length_drop, ← size_eq] at hjl
      rw [he, List.drop_drop, List.drop_drop, List.drop_drop] at hr
      obtain ⟨x, rest', rfl, hx, hr'⟩ := cons_of hr
      have hxe : Ln.encs x = #[.int .i64 (a : Int), .int .i64 (a + j : Int)] := by simp [Ln.encs, hx]
      have hlen' := hlen (by simp)
      clear hr hlen
      gi_wp2_with (refine ⟨trivial, ?_⟩; gi_at_call 95; refine (callsIn_wide.2 (indexAny_any _ _ (by have := cut_size s a; omega))).mono ?_; rintro e w1 ⟨rfl, hw1⟩; rw [cut_list, hk]; obtain ⟨hJ1, hB1, hc1⟩ := hnew w1 hw1; obtain ⟨fn, tmps, assign, body, hy, hR⟩ := hY pre x w1 hJ1 hlen'; rw [hxe] at hy)
      refine hR.mono ?_
      rintro e W3 (⟨rfl, hJ3, hk3⟩ | ⟨rfl, hJx3⟩)
      · have hB3 := hk3 _ hB1
        have hc3 := hB3.cell
        obtain ⟨p, hp⟩ : ∃ p, hasPrefix (s.data.toList.drop (a + j)) [13, 10] = p := ⟨_, rfl⟩
        rw [hp] at hr'
        have hpx : hasPrefix (s.data.toList.drop (a + j)) (⟨#[13, 10]⟩ : ByteArray).data.toList = p := hp
        have hl' : lns s = (pre ++ [x]) ++ rest' := by rw [hl]; simp
        have haj : a + j < s.size := by omega
        cases p
        · gi_wp2_with (refine ⟨trivial, ?_⟩; gi_at_call 96; refine (callsIn_wide.2 (Tryd.strings_HasPrefix _ _ _)).mono ?_; rintro e w2 ⟨rfl, hw2⟩; rw [hw2, cut_list, hpx])
          go_roundw
          case rel => exact ⟨pre ++ [x], rest', a + j + 1, by go_num, haj, hl', hr', hJ3, hB3⟩
          case measure => simp [RowKit.intOf]; omega
        · have h2 := prefix_two _ hp
          rw [List.length_drop, ← size_eq] at h2
          gi_wp2_with (refine ⟨trivial, ?_⟩; gi_at_call 96; refine (callsIn_wide.2 (Tryd.strings_HasPrefix _ _ _)).mono ?_; rintro e w2 ⟨rfl, hw2⟩; rw [hw2, cut_list, hpx])
          go_roundw
          case rel => exact ⟨pre ++ [x], rest', a + j + 2, by go_num, by omega, hl', hr', hJ3, hB3⟩
          case measure => simp [RowKit.intOf]; omega
      · gi_wp2
        refine bodyPost_ret (results_none rfl _ _ _) rfl ?_
        exact ⟨⟨_, rfl⟩, .inr ⟨_, ⟨rest', by rw [hl]; simp⟩, hJx3⟩⟩
end Go.Proofs.YtcenfckjkboabaaDoor
