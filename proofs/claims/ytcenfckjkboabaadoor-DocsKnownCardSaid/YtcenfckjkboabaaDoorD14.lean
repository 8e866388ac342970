/- maps.Values at open documents: the iterator hands its caller's body each document, once. -/
import Derived.Test.YtcenfckjkboabaaDoorD13
import Derived.Test.YtcenfckjkboabaaDoorD5
import Derived.RangeFuncBox
import Derived.RangeFuncNested
import Derived.RangeFuncFrom
import Derived.RangeFuncLeaves
import Derived.RangeFuncCalls
import Derived.Shelf.Abstract
import Derived.Shelf.RegionOpen
import Derived.Sort.MapsRangeIn
import Derived.WalkKit
import Derived.OwnWalkIn
import Derived.TacticsInMore
import Derived.RegionIn
import Derived.LoopNIn
import Derived.LoopIn
namespace Go.Proofs.Dc
open Go.RowKit Go.Proofs Go.Lib Go.Maps Go.Shelf

attribute [local go_sem] Oper.semAt_some

theorem docEl_inv2 {v : Value} {y : DataW Unit × List MemPlace} (h : docEl v = some y) : ∃ d, v = docVal d ∧ y = (docD d, []) := by
  unfold docEl at h
  split at h
  · rename_i a
    split at h
    · rename_i u t n he
      have ha : a = #[.string u, .string t, .int .i64 n] := Array.toList_inj.1 he
      exact ⟨⟨u.data.toList, t.data.toList, n⟩, by rw [ha]; rfl, (Option.some.inj h).symm⟩
    · cases h
  · cases h
theorem docD_inj {a b : Doc} (h : docD a = docD b) : a = b := by
  unfold docD at h
  simp only [DataW.agg.injEq, List.cons.injEq, DataW.lit.injEq, Lit.string.injEq, Lit.int.injEq, true_and, and_true] at h
  obtain ⟨h1, h2, h3⟩ := h
  cases a; cases b
  simp_all
/-- what has come -/
def Came (L : List Doc) (left : Lit → Bool) (ds : List Doc) : Prop := Collected (DD L) left (ds.map (·.uri)) ∧ ∀ d ∈ ds, d ∈ L
theorem came_step {L : List Doc} {left : Lit → Bool} {ds : List Doc} {x : List UInt8} {c : Doc} (h : Came L left ds) (hlk : left (.string x) = true) (hat : ∀ zd, (DD L).atKey (.string x) zd = docD c) : Came L (fun z => left z && !z.sameKey (.string x)) (ds ++ [c]) := by
  have hc : getD? L x = some c := by
    have h1 := hat .nil
    rw [DD_at] at h1
    cases hg : getD? L x with
    | none => rw [hg] at h1; cases h1
    | some d => rw [hg] at h1; rw [docD_inj h1]
  obtain ⟨hm, hu⟩ := get_mem hc
  refine ⟨?_, fun d hd => ?_⟩
  · rw [List.map_append, List.map_singleton, hu]
    exact h.1.step hlk hat
  · rcases List.mem_append.1 hd with hd | hd
    · exact h.2 d hd
    · rw [List.mem_singleton.1 hd]; exact hm
set_option maxRecDepth 100000 in
set_option maxHeartbeats 4000000 in
theorem values1_in (n : Nat) (hn : 1 ≤ n) (l Bm b : Nat) (L : List Doc) (hO : Ord L) (J Jx : List Doc → World → Prop)
    (hY : ∀ pre x W, J pre W → pre.length < L.length → YieldAt Fence.wide (n - 1) Tryd.prog l #[docVal x] W fun e W' =>
      (e = .returned (.bool true) ∧ J (pre ++ [x]) W' ∧ KeepsWalks W W') ∨ (e = .returned (.bool false) ∧ Jx (pre ++ [x]) W'))
    (W : World) (hJ : AbidesFrom W.heap.size J) (hm : W.cell? ⟨Bm, 0, none⟩ = some (.map (some b))) (hown : W.ownsMap Tryd.prog 9 docEl b L.length (DD L)) (h0 : J [] W) :
    CallsIn Fence.wide n Tryd.prog 53 #[.func (.yield l) #[] #[], .pointer (some ⟨Bm, 0, none⟩)] W fun e W' => (∃ v, e = .returned v) ∧
      ((∃ xs : List Doc, xs.Perm L ∧ J xs W') ∨ (∃ pre : List Doc, True ∧ Jx pre W')) := by
  refine callsIn_of_wp Tryd.func53 rfl trivial ?_ rfl
  simp only [Tryd.ntmps53, List.size_toArray, List.length_cons, List.length_nil, Nat.reduceAdd, Nat.reduceSub, Array.replicate_succ, Array.replicate_zero, List.push_toArray, List.append_toArray, List.nil_append, List.cons_append]
  gi_wp2_with (first
    | (gi_at_range; refine wpListIn_range_own _ rfl _ 57 rfl 9 38 law9 Tryd.underlying57 _ b L.length _ rfl hown ?_; intro w0 hrg0 hg0 hs0)
    | gi_in)
  go_frame
  gi_loopw [4] (fun _ wr => ∃ (left : Lit → Bool) (cnt : Nat) (ds : List Doc), wr.ranges Tryd.prog 9 docEl b W.heap.size L.length (DD L) left cnt ∧ ds.length + cnt ≤ L.length ∧ Came L left ds ∧ J ds wr)
    (fun _ wr => wr.rangeLeft b W.heap.size)
  case atStart =>
    exact ⟨_, _, [], hrg0, by rw [DD_size]; simp, ⟨Collected.start (DD L), fun d hd => by cases hd⟩, hJ [] W w0 none h0 hg0 (fun r e => by cases e)⟩
  case round =>
    obtain ⟨left, cnt, ds, hrg, hcs, hC, hJs⟩ := hrel
    gi_wp2_with (first
      | (gi_at_next; refine wpListIn_next_ranges _ rfl _ rfl 9 law9 docEl encStr docVal (fun key kl hk => by obtain ⟨x, hx, _⟩ := Maps.keyOf_str Tryd.underlying9 hk; exact ⟨x, hx⟩) (fun v y hy => by obtain ⟨d, h1, _⟩ := docEl_inv2 hy; exact ⟨d, h1⟩) b W.heap.size L.length _ _ _ rfl hrg ?_ ?_)
      | gi_in)
    · intro hc0 hl0
      gi_wp2
      go_end0
      exact ⟨⟨_, rfl⟩, .inl ⟨ds, perm_of_keys hO hC.2 (hC.1.perm hown law9 Tryd.underlying9 hl0), hJs⟩⟩
    · intro x c kl yd yp w2 cnt2 hkey hlk hv hat hrg2 hlt hg2 hs2 hen
      obtain ⟨x', ex, rfl, _⟩ := Maps.keyOf_str Tryd.underlying9 hkey
      obtain rfl : x = x' := encStr_inj ex
      have hcc : docEl (docVal c) = some (docD c, []) := rfl
      have hat2 : ∀ zd, (DD L).atKey (.string x) zd = docD c := fun zd => by rw [hat zd]; rw [hcc] at hv; exact (congrArg Prod.fst (Option.some.inj hv)).symm
      have hC2 := came_step hC hlk hat2
      have hJ2 : J ds w2 := hJ ds wr w2 (some W.heap.size) hJs hg2 (fun r e => by cases e; exact ⟨Nat.le_refl _, hrg.iter_walk⟩)
      have hJ3 : J ds (w2.alloc (.cells #[.string ⟨c.uri.toArray⟩, .string ⟨c.text.toArray⟩, .int .i64 c.ver] 38)) := hJ ds w2 _ none hJ2 (World.grownBy_alloc w2 _ none) (fun r e => by cases e)
      obtain ⟨fn, tmps, assign, body, hy, hR⟩ := hY ds c _ hJ3 (by omega)
      have hrg2b := hrg2.alloc (.cells #[.string ⟨c.uri.toArray⟩, .string ⟨c.text.toArray⟩, .int .i64 c.ver] 38)
      clear hs2 hcc hv hat hat2 hkey ex
      unfold docVal at hen hy
      gi_wp2
      refine hR.mono ?_
      rintro e W3 (⟨rfl, hJ4, hk3⟩ | ⟨rfl, hJx3⟩)
      · gi_wp2
        have hrg3 := hrg2b.of_walks hk3
        go_roundw
        case rel => exact ⟨_, cnt2, ds ++ [c], hrg3, by simp; omega, hC2, hJ4⟩
        case measure => rw [hrg3.left_eq, hrg.left_eq]; exact hlt
      · gi_wp2
        refine bodyPost_ret (results_none rfl _ _ _) rfl ?_
        exact ⟨⟨_, rfl⟩, .inr ⟨ds ++ [c], trivial, hJx3⟩⟩
/-- maps.Values hands back a value that gives the documents -/
theorem values_stops (n : Nat) (hn : 1 ≤ n) (Bm b : Nat) (L : List Doc) (hO : Ord L) (w : World) (hBm : Bm < w.heap.size) (hm : w.cell? ⟨Bm, 0, none⟩ = some (.map (some b))) (hown : w.ownsMap Tryd.prog 9 docEl b L.length (DD L)) :
    SeqStopsK Fence.wide n Tryd.prog 53 #[.pointer (some ⟨Bm, 0, none⟩)] (fun d => #[docVal d]) KeepsWalks (fun xs => xs.Perm L) (fun _ => True) L.length w := fun l J Jx W hW hJ _ hY h0 => by
  have hown' : W.ownsMap Tryd.prog 9 docEl b L.length (DD L) := hown.kept (row := none) (gb_below hW) (by simp)
  exact values1_in n hn l Bm b L hO J Jx hY W hJ ((hW.cell (p := ⟨Bm, 0, none⟩) hBm).trans hm) hown' h0
set_option maxHeartbeats 1000000 in
theorem values_any (M : Nat) (w : World) : Calls Tryd.prog 38 #[.map (some M)] w fun e w' => e = .returned (.func (.func 53) #[] #[.pointer (some ⟨w.heap.size, 0, none⟩)]) ∧ w' = w.alloc (.cells #[.map (some M)] 57) := by
  go_enter Tryd.func38, Tryd.ntmps38
  go_wp2
  go_ret
  exact ⟨rfl, rfl⟩
end Go.Proofs.Dc
