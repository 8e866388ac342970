/- The walk of frame.head. -/
import Derived.Test.YtebppgokcmeedaaDoorF3
import Derived.Laws.EntriesVeiled
namespace Go.Proofs.Fr
open Go.RowKit Go.Proofs Go.Lib

def nameLenB : ByteArray := ⟨#[99, 111, 110, 116, 101, 110, 116, 45, 108, 101, 110, 103, 116, 104]⟩
def nameTypB : ByteArray := ⟨#[99, 111, 110, 116, 101, 110, 116, 45, 116, 121, 112, 101]⟩
def mayCells (nb tb : Nat) : Array Value := #[.string nameLenB, .func (.func 40) #[] #[.pointer (some ⟨nb, 0, none⟩)], .string nameTypB, .func (.func 42) #[] #[.pointer (some ⟨tb, 0, none⟩)]]
def MaxV (w : World) : Prop := ∃ m : Int, w.cell? ⟨0, 0, none⟩ = some (.int .i64 m)
theorem MaxV.lt {w : World} (h : MaxV w) : 0 < w.heap.size := by
  obtain ⟨m, h⟩ := h
  exact World.block_lt_of_cell? w _ h
theorem MaxV.below {w w' : World} (h : MaxV w) (hb : Below w.heap.size w w') : MaxV w' := by
  have hl := h.lt
  obtain ⟨m, h⟩ := h
  exact ⟨m, (hb.cell (p := ⟨0, 0, none⟩) hl).trans h⟩
theorem MaxV.grown {w w' : World} (h : MaxV w) {b : Nat} (hb : w.grownBy w' (some b)) (hne : 0 ≠ b) : MaxV w' := by
  obtain ⟨m, h⟩ := h
  exact ⟨m, hb.cell h (by simpa using hne)⟩
/-- what head has in memory: the two numbers, the names, the lines -/
structure HInv (w : World) (nb : Nat) (L : List ByteArray) (W : World) (n k : Int) : Prop where
  one : One W nb n
  two : One W (nb + 1) k
  may : W.heap[nb + 2]? = some (.cells (mayCells nb (nb + 1)) 72 (0, 0))
  lin : W.heap[nb + 3]? = some (.cells (L.map Value.string).toArray 9 (0, 0))
  low : Below nb w W
  mx : MaxV W
  pos : 0 < nb
theorem HInv.size {w : World} {nb : Nat} {L : List ByteArray} {W : World} {n k : Int} (h : HInv w nb L W n k) : nb + 3 < W.heap.size := (Array.getElem?_eq_some_iff.1 h.lin).1
theorem HInv.below {w : World} {nb : Nat} {L : List ByteArray} {W W' : World} {n k : Int} (h : HInv w nb L W n k) (hb : Below W.heap.size W W') : HInv w nb L W' n k := by
  have hz := h.size
  exact ⟨h.one.below hb, h.two.below hb, (hb.block _ (by omega)).trans h.may, (hb.block _ (by omega)).trans h.lin, h.low.trans (hb.mono (by omega)), h.mx.below hb, h.pos⟩
theorem HInv.set1 {w : World} {nb : Nat} {L : List ByteArray} {W W' : World} {n k m : Int} (h : HInv w nb L W n k) (ho : One W' nb m) (hg : W.grownBy W' (some nb)) : HInv w nb L W' m k := by
  have hz := h.size
  have hp := h.pos
  exact ⟨ho, h.two.kept hg (by simp), (hg.block _ (by omega) (by simp)).trans h.may, (hg.block _ (by omega) (by simp)).trans h.lin, h.low.grown hg (by omega) (fun j hj => by cases hj; omega), h.mx.grown hg (by omega), h.pos⟩
theorem HInv.set2 {w : World} {nb : Nat} {L : List ByteArray} {W W' : World} {n k m : Int} (h : HInv w nb L W n k) (ho : One W' (nb + 1) m) (hg : W.grownBy W' (some (nb + 1))) : HInv w nb L W' n m := by
  have hz := h.size
  have hp := h.pos
  exact ⟨h.one.kept hg (by simp), ho, (hg.block _ (by omega) (by simp)).trans h.may, (hg.block _ (by omega) (by simp)).trans h.lin, h.low.grown hg (by omega) (fun j hj => by cases hj; omega), h.mx.grown hg (by omega), h.pos⟩
theorem alloc_keep {w : World} {o o' : Obj} {k : Nat} (h : w.heap[k]? = some o) : (w.alloc o').heap[k]? = some o := (Below.heap_alloc w o' k (Array.getElem?_eq_some_iff.1 h).1).trans h
theorem alloc_new (w : World) (o : Obj) (k : Nat) (h : k = w.heap.size) : (w.alloc o).heap[k]? = some o := by rw [h]; exact heap_alloc_new w o
theorem cell_of_row (w : World) (b i : Nat) (c : Array Value) (t : TypeId) (z : Nat × Nat) (h : w.heap[b]? = some (.cells c t z)) : w.cell? ⟨b, i, none⟩ = c[i]? := by
  simp [World.cell?, h]
theorem HInv.start {w w1 : World} {L : List ByteArray} (hT : MaxV w) (hw1 : w1 = (((w.alloc (.cells #[.int .i64 (-1)] 3)).alloc (.cells #[.int .i64 0] 3)).alloc (.cells (mayCells w.heap.size (w.heap.size + 1)) 72)).alloc (.cells (L.map Value.string).toArray 9)) : HInv w w.heap.size L w1 (-1) 0 := by
  rw [hw1]
  have hb : Below w.heap.size w ((((w.alloc (.cells #[.int .i64 (-1)] 3)).alloc (.cells #[.int .i64 0] 3)).alloc (.cells (mayCells w.heap.size (w.heap.size + 1)) 72)).alloc (.cells (L.map Value.string).toArray 9)) := ((((Below.refl _ _).alloc (Nat.le_refl _) _).alloc (by simp) _).alloc (by simp; omega) _).alloc (by simp; omega) _
  refine ⟨?_, ?_, ?_, ?_, hb, hT.below hb, hT.lt⟩
  · exact alloc_keep (alloc_keep (alloc_keep (alloc_new _ _ _ rfl)))
  · exact alloc_keep (alloc_keep (alloc_new _ _ _ (by simp)))
  · exact alloc_keep (alloc_new _ _ _ (by simp))
  · exact alloc_new _ _ _ (by simp)
theorem HInv.mayc {w : World} {nb : Nat} {L : List ByteArray} {W : World} {n k : Int} (h : HInv w nb L W n k) (i : Nat) (v : Value) (hv : (mayCells nb (nb + 1))[i]? = some v) : W.cell? ⟨nb + 1 + 1, i, none⟩ = some v := by
  rw [show nb + 1 + 1 = nb + 2 from rfl, cell_of_row _ _ _ _ _ _ h.may]
  exact hv
theorem below_draws {w wr : World} {B : Nat} (hB : Below B w wr) (n : Nat) : Below B w (wr.drewN n) := by
  induction n with
  | zero => exact hB
  | succ n ih => exact ih.drew
theorem cut_none {l : List UInt8} (h : index l [58] = -1) : Lib.cut l [58] = (l, [], false) := by
  unfold Lib.cut
  rw [h, if_neg (by omega)]
theorem cut_some {l : List UInt8} {j : Nat} (h : index l [58] = j) : Lib.cut l [58] = (l.take j, l.drop (j + 1), true) := by
  unfold Lib.cut
  rw [h, if_pos (by omega)]
  rfl
theorem mk_list (l : ByteArray) : (⟨l.data.toList.toArray⟩ : ByteArray) = l := by simp
set_option maxRecDepth 100000 in
set_option maxHeartbeats 4000000 in
theorem head_any (s : ByteArray) (w : World) (hT : MaxV w) (hs : s.size ≤ 4194304) : Calls Tryd.prog 28 #[.string s] w fun e w' => e = .returned (.int .i64 (headL s.data.toList)) ∧ Below w.heap.size w w' := by
  have hsp : ∀ w, MaxV w → Calls Tryd.prog 44 #[.string s, .string crlfB] w fun e w' =>
      e = .returned (.slice (some ⟨w.heap.size, 0, none⟩) (lns s.data.toList).length (lns s.data.toList).length) ∧ w' = w.alloc (.cells ((splitB crlfB 0 (countB s crlfB) s).map Value.string).toArray 9) := by
    rintro w ⟨m, hm⟩
    have h := Tryd.strings_Split s crlfB m w (by omega) hm (by decide)
    have e : countB s crlfB + 1 = (lns s.data.toList).length := by
      rw [← split_lns s.size s (Nat.le_refl _), List.length_map, splitB_all crlfB (by decide) 0 _ s rfl]
    rw [e] at h
    exact h
  obtain ⟨L, hL⟩ : ∃ L, splitB crlfB 0 (countB s crlfB) s = L := ⟨_, rfl⟩
  have hLl : L.map (·.data.toList) = lns s.data.toList := by rw [← hL]; exact split_lns s.size s (Nat.le_refl _)
  have hLn : (lns s.data.toList).length = L.length := by rw [← hLl, List.length_map]
  rw [hLn, hL] at hsp
  obtain ⟨R, hR⟩ : ∃ R, headL s.data.toList = R := ⟨_, rfl⟩
  rw [hR]
  unfold headL at hR
  rw [← hLl] at hR
  have HR := Lib.hid hR
  have HLl := Lib.hid hLl
  unfold crlfB at hsp
  clear hR hLl hLn hL
  go_enter Tryd.func28, Tryd.ntmps28
  go_wp2_with (first
    | (go_at_call 44; refine (hsp _ ?_).mono ?_; rotate_left; (rintro e w1 ⟨rfl, hw1⟩; have h0 : HInv w w.heap.size L w1 (-1) 0 := HInv.start hT hw1; clear hw1)))
  rotate_left
  · exact hT.below ((((Below.refl _ _).alloc (Nat.le_refl _) _).alloc (by simp) _).alloc (by simp; omega) _)
  clear hsp
  go_loopw [22] (fun v wr => ∃ (i k : Nat) (n : Int), v = .int .i64 i ∧ i ≤ L.length ∧ k ≤ 1 ∧ HInv w w.heap.size L wr n k ∧ headGo ((L.map (·.data.toList)).drop i) n k = R) (fun v _ => L.length - (RowKit.intOf v).toNat)
  case atStart => exact ⟨0, 0, -1, rfl, Nat.zero_le _, by omega, h0, HR.out⟩
  case round =>
    obtain ⟨i, k, n, rfl, hi, hk, hI, hR⟩ := hrel
    have HR2 := Lib.hid hR
    clear hR HR
    by_cases hlt : (i : Int) < (L.length : Int)
    · have hi' : i < L.length := by omega
      obtain ⟨l, hl⟩ : ∃ l, L[i] = l := ⟨_, rfl⟩
      have hmem : l.data.toList ∈ lns s.data.toList := by
        rw [← HLl.out, ← hl]
        exact List.mem_map.2 ⟨_, List.getElem_mem hi', rfl⟩
      have hls : l.size ≤ s.size := by
        have := splitK_len crlf _ _ _ hmem
        rwa [← Lib.size_eq, ← Lib.size_eq] at this
      have hcl : wr.cell? ⟨w.heap.size + 1 + 1 + 1, i, none⟩ = some (.string l) := by
        rw [show w.heap.size + 1 + 1 + 1 = w.heap.size + 3 from rfl, cell_of_row _ _ _ _ _ _ hI.lin]
        simp [hi', hl]
      have hstep : headGo (l.data.toList :: (L.map (·.data.toList)).drop (i + 1)) n k = R := by
        have h := HR2.out
        rw [List.drop_eq_getElem_cons (by rw [List.length_map]; exact hi'), List.getElem_map, hl] at h
        exact h
      have HS := Lib.hid hstep
      obtain ⟨m, hm⟩ := hI.mx
      have hcut := fun w (hm : w.cell? ⟨0, 0, none⟩ = some (.int .i64 m)) => Tryd.strings_Cut l ⟨#[58]⟩ m w (by omega) hm
      have hfew : (L.length : Int) ≤ 4194305 := by
        have := countB_le crlfB (by decide) s.size s (Nat.le_refl _)
        have e : L.length = countB s crlfB + 1 := by
          rw [← List.length_map (f := (·.data.toList)), HLl.out, ← split_lns s.size s (Nat.le_refl _), List.length_map, splitB_all crlfB (by decide) 0 _ s rfl]
        omega
      clear hstep hl hmem HR2
      rcases index_colon l.data.toList with ⟨hx, _⟩ | ⟨j, hx, hj, _⟩
      · simp only [cut_none hx, mk_list] at hcut
        have hr : R = -1 := by
          rw [← HS.out]
          unfold headGo
          rw [named_none hx, named_none hx]
        have HRR := Lib.hid hr
        clear hx hr
        go_wp2_with (first
          | (go_at_call 45; refine (hcut _ hm).mono ?_; rintro e w2 ⟨rfl, d, hw2⟩; have hI2 : HInv w w.heap.size L w2 n k := (by rw [hw2]; exact hI.below (below_draws (Below.refl _ _) _)); clear hw2))
        refine wp_loop_rounds 3 ?_
        have k0 : w2.cell? ⟨w.heap.size + 1 + 1, 0, none⟩ = some (.string nameLenB) := hI2.mayc 0 _ rfl
        have k1 : w2.cell? ⟨w.heap.size + 1 + 1, 1, none⟩ = some (.func (.func 40) #[] #[.pointer (some ⟨w.heap.size, 0, none⟩)]) := hI2.mayc 1 _ rfl
        rw [rounds_succ]
        go_wp2
        have i0 : HInv w w.heap.size L (w2.alloc (.cells #[.string nameLenB, .func (.func 40) #[] #[.pointer (some ⟨w.heap.size, 0, none⟩)]] 72)) n k := hI2.below ((Below.refl _ _).alloc (Nat.le_refl _) _)
        have x0 : (w2.alloc (.cells #[.string nameLenB, .func (.func 40) #[] #[.pointer (some ⟨w.heap.size, 0, none⟩)]] 72)).heap[w2.heap.size]? = some (.cells #[.string nameLenB, .func (.func 40) #[] #[.pointer (some ⟨w.heap.size, 0, none⟩)]] 72 (0, 0)) := Array.getElem?_push_size
        have y0 : w.heap.size + 3 < w2.heap.size := hI2.size
        clear k0 k1
        generalize w2.alloc (.cells #[.string nameLenB, .func (.func 40) #[] #[.pointer (some ⟨w.heap.size, 0, none⟩)]] 72) = V0 at i0 x0 ⊢
        generalize w2.heap.size = xb0 at x0 y0 ⊢
        have f0 : V0.cell? ⟨xb0, 0, none⟩ = some (.string nameLenB) := by rw [cell_of_row _ _ 0 _ _ _ x0]; rfl
        have f1 : V0.cell? ⟨xb0, 1, none⟩ = some (.func (.func 40) #[] #[.pointer (some ⟨w.heap.size, 0, none⟩)]) := by rw [cell_of_row _ _ 1 _ _ _ x0]; rfl
        have z0 : xb0 < V0.heap.size := (Array.getElem?_eq_some_iff.1 x0).1
        clear x0
        clear f0 f1
        go_big_quiet (fail)
        have j0 : HInv w w.heap.size L (V0.drewN nq) n k := i0.below (below_draws (Below.refl _ _) _)
        generalize V0.drewN nq = U0 at j0 ⊢
        clear i0
        go_wp2
        have k0 : U0.cell? ⟨w.heap.size + 1 + 1, 2, none⟩ = some (.string nameTypB) := j0.mayc 2 _ rfl
        have k1 : U0.cell? ⟨w.heap.size + 1 + 1, 3, none⟩ = some (.func (.func 42) #[] #[.pointer (some ⟨w.heap.size + 1, 0, none⟩)]) := j0.mayc 3 _ rfl
        rw [rounds_succ]
        go_wp2
        have i1 : HInv w w.heap.size L (U0.alloc (.cells #[.string nameTypB, .func (.func 42) #[] #[.pointer (some ⟨w.heap.size + 1, 0, none⟩)]] 72)) n k := j0.below ((Below.refl _ _).alloc (Nat.le_refl _) _)
        have x1 : (U0.alloc (.cells #[.string nameTypB, .func (.func 42) #[] #[.pointer (some ⟨w.heap.size + 1, 0, none⟩)]] 72)).heap[U0.heap.size]? = some (.cells #[.string nameTypB, .func (.func 42) #[] #[.pointer (some ⟨w.heap.size + 1, 0, none⟩)]] 72 (0, 0)) := Array.getElem?_push_size
        have y1 : w.heap.size + 3 < U0.heap.size := j0.size
        clear k0 k1
        generalize U0.alloc (.cells #[.string nameTypB, .func (.func 42) #[] #[.pointer (some ⟨w.heap.size + 1, 0, none⟩)]] 72) = V1 at i1 x1 ⊢
        generalize U0.heap.size = xb1 at x1 y1 ⊢
        have f0 : V1.cell? ⟨xb1, 0, none⟩ = some (.string nameTypB) := by rw [cell_of_row _ _ 0 _ _ _ x1]; rfl
        have f1 : V1.cell? ⟨xb1, 1, none⟩ = some (.func (.func 42) #[] #[.pointer (some ⟨w.heap.size + 1, 0, none⟩)]) := by rw [cell_of_row _ _ 1 _ _ _ x1]; rfl
        have z1 : xb1 < V1.heap.size := (Array.getElem?_eq_some_iff.1 x1).1
        clear x1
        clear f0 f1
        go_big_quiet (fail)
        have j1 : HInv w w.heap.size L (V1.drewN nq) n k := i1.below (below_draws (Below.refl _ _) _)
        generalize V1.drewN nq = U1 at j1 ⊢
        clear i1
        go_wp2
        rw [rounds_succ]
        go_wp2
        go_ret
        exact ⟨ret_int HRR.out.symm, j1.low⟩
      · simp only [cut_some hx] at hcut
        have hjl := (List.getElem?_eq_some_iff.1 hj).1
        rw [← Lib.size_eq] at hjl
        obtain ⟨X, hX⟩ : ∃ X : ByteArray, (⟨(l.data.toList.take j).toArray⟩ : ByteArray) = X := ⟨_, rfl⟩
        obtain ⟨V, hV⟩ : ∃ V : ByteArray, (⟨(l.data.toList.drop (j + 1)).toArray⟩ : ByteArray) = V := ⟨_, rfl⟩
        have hXl : X.data.toList = l.data.toList.take j := by rw [← hX]
        have hVl : V.data.toList = l.data.toList.drop (j + 1) := by rw [← hV]
        have hXs : X.size = j := by rw [Lib.size_eq, hXl, List.length_take, ← Lib.size_eq]; omega
        have hVs : V.size ≤ l.size := by rw [Lib.size_eq, hVl, List.length_drop, ← Lib.size_eq]; omega
        simp only [hX, hV] at hcut
        have hsm := fun w => small_any X w (by omega)
        rw [hXl] at hsm
        have hXt : decide (X.size < l.size) = true := by simp; omega
        have hN := fun name hn => named_some (name := name) hx hn
        rw [← hVl] at hN
        have hn1 := hN nameLen nameLen_ok
        have hn2 := hN nameTyp nameTyp_ok
        have hne1 : (nameLenB.toList == nameTypB.toList) = false := by
          rw [ByteArray.toList_eq, ByteArray.toList_eq]; decide
        have hne2 : (nameTypB.toList == nameLenB.toList) = false := by
          rw [ByteArray.toList_eq, ByteArray.toList_eq]; decide
        clear hX hV hx hj hXl hN
        by_cases hB : (l.data.toList.take j).map lowB = nameLen
        · rw [if_pos hB] at hn1
          rw [show (⟨((l.data.toList.take j).map lowB).toArray⟩ : ByteArray) = nameLenB by rw [hB]; rfl] at hsm
          have hst : headGo (l.data.toList :: (L.map (·.data.toList)).drop (i + 1)) n k = if n = -1 ∧ numV V.data.toList ≠ -1 then headGo ((L.map (·.data.toList)).drop (i + 1)) (numV V.data.toList) k else -1 := by
            conv => lhs; unfold headGo
            rw [hn1]
          by_cases hg : n = -1 ∧ numV V.data.toList ≠ -1
          · have hss : headGo ((L.map (·.data.toList)).drop (i + 1)) (numV V.data.toList) k = R := by rw [← HS.out, hst, if_pos hg]
            have HSS := Lib.hid hss
            have hgd : decide (n = -1 ∧ numV V.data.toList ≠ -1) = true := decide_eq_true hg
            clear hst hss hg hn1 hn2 hB HS hVl
            go_wp2_with (first
              | (go_at_call 45; refine (hcut _ hm).mono ?_; rintro e w2 ⟨rfl, d, hw2⟩; have hI2 : HInv w w.heap.size L w2 n k := (by rw [hw2]; exact hI.below (below_draws (Below.refl _ _) _)); clear hw2))
            refine wp_loop_rounds 3 ?_
            have k0 : w2.cell? ⟨w.heap.size + 1 + 1, 0, none⟩ = some (.string nameLenB) := hI2.mayc 0 _ rfl
            have k1 : w2.cell? ⟨w.heap.size + 1 + 1, 1, none⟩ = some (.func (.func 40) #[] #[.pointer (some ⟨w.heap.size, 0, none⟩)]) := hI2.mayc 1 _ rfl
            rw [rounds_succ]
            go_wp2
            have i0 : HInv w w.heap.size L (w2.alloc (.cells #[.string nameLenB, .func (.func 40) #[] #[.pointer (some ⟨w.heap.size, 0, none⟩)]] 72)) n k := hI2.below ((Below.refl _ _).alloc (Nat.le_refl _) _)
            have x0 : (w2.alloc (.cells #[.string nameLenB, .func (.func 40) #[] #[.pointer (some ⟨w.heap.size, 0, none⟩)]] 72)).heap[w2.heap.size]? = some (.cells #[.string nameLenB, .func (.func 40) #[] #[.pointer (some ⟨w.heap.size, 0, none⟩)]] 72 (0, 0)) := Array.getElem?_push_size
            have y0 : w.heap.size + 3 < w2.heap.size := hI2.size
            clear k0 k1
            generalize w2.alloc (.cells #[.string nameLenB, .func (.func 40) #[] #[.pointer (some ⟨w.heap.size, 0, none⟩)]] 72) = V0 at i0 x0 ⊢
            generalize w2.heap.size = xb0 at x0 y0 ⊢
            have f0 : V0.cell? ⟨xb0, 0, none⟩ = some (.string nameLenB) := by rw [cell_of_row _ _ 0 _ _ _ x0]; rfl
            have f1 : V0.cell? ⟨xb0, 1, none⟩ = some (.func (.func 40) #[] #[.pointer (some ⟨w.heap.size, 0, none⟩)]) := by rw [cell_of_row _ _ 1 _ _ _ x0]; rfl
            have z0 : xb0 < V0.heap.size := (Array.getElem?_eq_some_iff.1 x0).1
            clear x0
            go_region_held3 (fun v => v.cell? ⟨xb0, 0, none⟩ = some (.string nameLenB) ∧ v.cell? ⟨xb0, 1, none⟩ = some (.func (.func 40) #[] #[.pointer (some ⟨w.heap.size, 0, none⟩)])) (first | exact ⟨f0, f1⟩ | exact ⟨by assumption, by assumption⟩) ((first | (go_at_call 46; refine (hsm _).mono ?_; rintro e wA ⟨rfl, hbA⟩; have gA0 := (hbA.cell (p := ⟨xb0, 0, none⟩) z0).trans f0; have gA1 := (hbA.cell (p := ⟨xb0, 1, none⟩) z0).trans f1; have iA := i0.below ((Below.refl V0.heap.size V0).drew.trans hbA)) | (go_at_call 40; refine (says_len V w.heap.size n _ (by omega) iA.one).mono ?_; rintro e wB ⟨rfl, hone, hgB⟩; have gB0 := hgB.cell gA0 (by simp; omega); have gB1 := hgB.cell gA1 (by simp; omega))))
            have j0 := iA.set1 hone hgB
            clear iA gA0 gA1 gB0 gB1 f0 f1 i0 hbA hone hgB
            generalize wB = U0 at j0 ⊢
            go_wp2
            have k0 : U0.cell? ⟨w.heap.size + 1 + 1, 2, none⟩ = some (.string nameTypB) := j0.mayc 2 _ rfl
            have k1 : U0.cell? ⟨w.heap.size + 1 + 1, 3, none⟩ = some (.func (.func 42) #[] #[.pointer (some ⟨w.heap.size + 1, 0, none⟩)]) := j0.mayc 3 _ rfl
            rw [rounds_succ]
            go_wp2
            have i1 : HInv w w.heap.size L (U0.alloc (.cells #[.string nameTypB, .func (.func 42) #[] #[.pointer (some ⟨w.heap.size + 1, 0, none⟩)]] 72)) (numV V.data.toList) k := j0.below ((Below.refl _ _).alloc (Nat.le_refl _) _)
            have x1 : (U0.alloc (.cells #[.string nameTypB, .func (.func 42) #[] #[.pointer (some ⟨w.heap.size + 1, 0, none⟩)]] 72)).heap[U0.heap.size]? = some (.cells #[.string nameTypB, .func (.func 42) #[] #[.pointer (some ⟨w.heap.size + 1, 0, none⟩)]] 72 (0, 0)) := Array.getElem?_push_size
            have y1 : w.heap.size + 3 < U0.heap.size := j0.size
            clear k0 k1
            generalize U0.alloc (.cells #[.string nameTypB, .func (.func 42) #[] #[.pointer (some ⟨w.heap.size + 1, 0, none⟩)]] 72) = V1 at i1 x1 ⊢
            generalize U0.heap.size = xb1 at x1 y1 ⊢
            have f0 : V1.cell? ⟨xb1, 0, none⟩ = some (.string nameTypB) := by rw [cell_of_row _ _ 0 _ _ _ x1]; rfl
            have f1 : V1.cell? ⟨xb1, 1, none⟩ = some (.func (.func 42) #[] #[.pointer (some ⟨w.heap.size + 1, 0, none⟩)]) := by rw [cell_of_row _ _ 1 _ _ _ x1]; rfl
            have z1 : xb1 < V1.heap.size := (Array.getElem?_eq_some_iff.1 x1).1
            clear x1
            clear f0 f1
            go_big_quiet (fail)
            have j1 : HInv w w.heap.size L (V1.drewN nq) (numV V.data.toList) k := i1.below (below_draws (Below.refl _ _) _)
            generalize V1.drewN nq = U1 at j1 ⊢
            clear i1
            go_wp2
            rw [rounds_succ]
            go_wp2
            go_roundw
            case rel => exact ⟨i + 1, k, _, by go_num, by omega, by omega, j1, HSS.out⟩
            case measure => simp [RowKit.intOf]; omega
          · have hr : R = -1 := by rw [← HS.out, hst, if_neg hg]
            have HRR := Lib.hid hr
            have hgd : decide (n = -1 ∧ numV V.data.toList ≠ -1) = false := decide_eq_false hg
            clear hst hr hg hn1 hn2 hB HS hVl
            go_wp2_with (first
              | (go_at_call 45; refine (hcut _ hm).mono ?_; rintro e w2 ⟨rfl, d, hw2⟩; have hI2 : HInv w w.heap.size L w2 n k := (by rw [hw2]; exact hI.below (below_draws (Below.refl _ _) _)); clear hw2))
            refine wp_loop_rounds 3 ?_
            have k0 : w2.cell? ⟨w.heap.size + 1 + 1, 0, none⟩ = some (.string nameLenB) := hI2.mayc 0 _ rfl
            have k1 : w2.cell? ⟨w.heap.size + 1 + 1, 1, none⟩ = some (.func (.func 40) #[] #[.pointer (some ⟨w.heap.size, 0, none⟩)]) := hI2.mayc 1 _ rfl
            rw [rounds_succ]
            go_wp2
            have i0 : HInv w w.heap.size L (w2.alloc (.cells #[.string nameLenB, .func (.func 40) #[] #[.pointer (some ⟨w.heap.size, 0, none⟩)]] 72)) n k := hI2.below ((Below.refl _ _).alloc (Nat.le_refl _) _)
            have x0 : (w2.alloc (.cells #[.string nameLenB, .func (.func 40) #[] #[.pointer (some ⟨w.heap.size, 0, none⟩)]] 72)).heap[w2.heap.size]? = some (.cells #[.string nameLenB, .func (.func 40) #[] #[.pointer (some ⟨w.heap.size, 0, none⟩)]] 72 (0, 0)) := Array.getElem?_push_size
            have y0 : w.heap.size + 3 < w2.heap.size := hI2.size
            clear k0 k1
            generalize w2.alloc (.cells #[.string nameLenB, .func (.func 40) #[] #[.pointer (some ⟨w.heap.size, 0, none⟩)]] 72) = V0 at i0 x0 ⊢
            generalize w2.heap.size = xb0 at x0 y0 ⊢
            have f0 : V0.cell? ⟨xb0, 0, none⟩ = some (.string nameLenB) := by rw [cell_of_row _ _ 0 _ _ _ x0]; rfl
            have f1 : V0.cell? ⟨xb0, 1, none⟩ = some (.func (.func 40) #[] #[.pointer (some ⟨w.heap.size, 0, none⟩)]) := by rw [cell_of_row _ _ 1 _ _ _ x0]; rfl
            have z0 : xb0 < V0.heap.size := (Array.getElem?_eq_some_iff.1 x0).1
            clear x0
            go_region_held3 (fun v => v.cell? ⟨xb0, 0, none⟩ = some (.string nameLenB) ∧ v.cell? ⟨xb0, 1, none⟩ = some (.func (.func 40) #[] #[.pointer (some ⟨w.heap.size, 0, none⟩)])) (first | exact ⟨f0, f1⟩ | exact ⟨by assumption, by assumption⟩) ((first | (go_at_call 46; refine (hsm _).mono ?_; rintro e wA ⟨rfl, hbA⟩; have gA0 := (hbA.cell (p := ⟨xb0, 0, none⟩) z0).trans f0; have gA1 := (hbA.cell (p := ⟨xb0, 1, none⟩) z0).trans f1; have iA := i0.below ((Below.refl V0.heap.size V0).drew.trans hbA)) | (go_at_call 40; refine (says_len V w.heap.size n _ (by omega) iA.one).mono ?_; rintro e wB ⟨rfl, hone, hgB⟩; have gB0 := hgB.cell gA0 (by simp; omega); have gB1 := hgB.cell gA1 (by simp; omega))))
            have j0 := iA.set1 hone hgB
            clear iA gA0 gA1 gB0 gB1 f0 f1 i0 hbA hone hgB
            generalize wB = U0 at j0 ⊢
            go_wp2
            have k0 : U0.cell? ⟨w.heap.size + 1 + 1, 2, none⟩ = some (.string nameTypB) := j0.mayc 2 _ rfl
            have k1 : U0.cell? ⟨w.heap.size + 1 + 1, 3, none⟩ = some (.func (.func 42) #[] #[.pointer (some ⟨w.heap.size + 1, 0, none⟩)]) := j0.mayc 3 _ rfl
            rw [rounds_succ]
            go_wp2
            have i1 : HInv w w.heap.size L (U0.alloc (.cells #[.string nameTypB, .func (.func 42) #[] #[.pointer (some ⟨w.heap.size + 1, 0, none⟩)]] 72)) (numV V.data.toList) k := j0.below ((Below.refl _ _).alloc (Nat.le_refl _) _)
            have x1 : (U0.alloc (.cells #[.string nameTypB, .func (.func 42) #[] #[.pointer (some ⟨w.heap.size + 1, 0, none⟩)]] 72)).heap[U0.heap.size]? = some (.cells #[.string nameTypB, .func (.func 42) #[] #[.pointer (some ⟨w.heap.size + 1, 0, none⟩)]] 72 (0, 0)) := Array.getElem?_push_size
            have y1 : w.heap.size + 3 < U0.heap.size := j0.size
            clear k0 k1
            generalize U0.alloc (.cells #[.string nameTypB, .func (.func 42) #[] #[.pointer (some ⟨w.heap.size + 1, 0, none⟩)]] 72) = V1 at i1 x1 ⊢
            generalize U0.heap.size = xb1 at x1 y1 ⊢
            have f0 : V1.cell? ⟨xb1, 0, none⟩ = some (.string nameTypB) := by rw [cell_of_row _ _ 0 _ _ _ x1]; rfl
            have f1 : V1.cell? ⟨xb1, 1, none⟩ = some (.func (.func 42) #[] #[.pointer (some ⟨w.heap.size + 1, 0, none⟩)]) := by rw [cell_of_row _ _ 1 _ _ _ x1]; rfl
            have z1 : xb1 < V1.heap.size := (Array.getElem?_eq_some_iff.1 x1).1
            clear x1
            refine wp_region_held_drew (S := fun v => v.cell? ⟨xb1, 0, none⟩ = some (.string nameTypB) ∧ v.cell? ⟨xb1, 1, none⟩ = some (.func (.func 42) #[] #[.pointer (some ⟨w.heap.size + 1, 0, none⟩)])) (by kernel_rfl) ⟨f0, f1⟩ (fun hHeld => ?_)
            refine wpAnyH_take (i := 0) (oi := { dst := some 38, op := Op.move (Operand.tmp 11), type := 4, pos := "frame.go:106", after := #[], guard := none }) (v := ?_) rfl (by kernel_rfl) (by kernel_rfl) (by kernel_rfl) (fun _ _ _ h => h) (Or.inl ⟨by rfl, ?_⟩) (by assumption) ?_
            rotate_left
            · intro w hS; obtain ⟨hS0, hS1⟩ := hS; go_simp; with_reducible rfl
            try simp only [Act.put, List.setIfInBounds_toArray, List.set_cons_zero, List.set_cons_succ]
            refine wpAnyH_take (i := 1) (oi := { dst := some 39, op := Op.move (Operand.tmp 38), type := 4, pos := "frame.go:106", after := #[{ on := 0, ground := Ground.data }], guard := none }) (v := ?_) rfl (by kernel_rfl) (by kernel_rfl) (by kernel_rfl) (fun _ _ _ h => h) (Or.inl ⟨by rfl, ?_⟩) (by assumption) ?_
            rotate_left
            · intro w hS; obtain ⟨hS0, hS1⟩ := hS; go_simp; with_reducible rfl
            try simp only [Act.put, List.setIfInBounds_toArray, List.set_cons_zero, List.set_cons_succ]
            refine wpAnyH_take (i := 2) (oi := { dst := some 40, op := Op.move (Operand.tmp 7), type := 9, pos := "frame.go:106", after := #[{ on := 1, ground := Ground.guard }], guard := some (1, false) }) (v := ?_) rfl (by kernel_rfl) (by kernel_rfl) (by kernel_rfl) (fun _ _ _ h => h) (Or.inl ⟨by rfl, ?_⟩) (by assumption) ?_
            rotate_left
            · intro w hS; obtain ⟨hS0, hS1⟩ := hS; go_simp; with_reducible rfl
            try simp only [Act.put, List.setIfInBounds_toArray, List.set_cons_zero, List.set_cons_succ]
            refine wpAnyH_take (i := 3) (oi := { dst := some 41, op := Op.call { callee := Callee.builtin Builtin.len, args := #[Operand.tmp 40], argTypes := #[9] }, type := 3, pos := "frame.go:106", after := #[{ on := 2, ground := Ground.data }, { on := 1, ground := Ground.guard }], guard := some (1, false) }) (v := ?_) rfl (by kernel_rfl) (by kernel_rfl) (by kernel_rfl) (fun _ _ _ h => h) (Or.inl ⟨by rfl, ?_⟩) (by assumption) ?_
            rotate_left
            · intro w hS; obtain ⟨hS0, hS1⟩ := hS; go_simp; with_reducible rfl
            try simp only [Act.put, List.setIfInBounds_toArray, List.set_cons_zero, List.set_cons_succ]
            refine wpAnyH_take (i := 4) (oi := { dst := some 42, op := Op.move (Operand.tmp 8), type := 9, pos := "frame.go:106", after := #[{ on := 1, ground := Ground.guard }], guard := some (1, false) }) (v := ?_) rfl (by kernel_rfl) (by kernel_rfl) (by kernel_rfl) (fun _ _ _ h => h) (Or.inl ⟨by rfl, ?_⟩) (by assumption) ?_
            rotate_left
            · intro w hS; obtain ⟨hS0, hS1⟩ := hS; go_simp; with_reducible rfl
            try simp only [Act.put, List.setIfInBounds_toArray, List.set_cons_zero, List.set_cons_succ]
            refine wpAnyH_take (i := 5) (oi := { dst := some 43, op := Op.call { callee := Callee.builtin Builtin.len, args := #[Operand.tmp 42], argTypes := #[9] }, type := 3, pos := "frame.go:106", after := #[{ on := 4, ground := Ground.data }, { on := 1, ground := Ground.guard }], guard := some (1, false) }) (v := ?_) rfl (by kernel_rfl) (by kernel_rfl) (by kernel_rfl) (fun _ _ _ h => h) (Or.inl ⟨by rfl, ?_⟩) (by assumption) ?_
            rotate_left
            · intro w hS; obtain ⟨hS0, hS1⟩ := hS; go_simp; with_reducible rfl
            try simp only [Act.put, List.setIfInBounds_toArray, List.set_cons_zero, List.set_cons_succ]
            refine wpAnyH_take (i := 6) (oi := { dst := some 44, op := Op.binOp BinOp.gtr 3 (Operand.tmp 41) (Operand.tmp 43) 3, type := 4, pos := "frame.go:106", after := #[{ on := 3, ground := Ground.data }, { on := 5, ground := Ground.data }, { on := 1, ground := Ground.guard }], guard := some (1, false) }) (v := ?_) rfl (by kernel_rfl) (by kernel_rfl) (by kernel_rfl) (fun _ _ _ h => h) (Or.inl ⟨by rfl, ?_⟩) (by assumption) ?_
            rotate_left
            · intro w hS; obtain ⟨hS0, hS1⟩ := hS; go_simp; with_reducible rfl
            try simp only [Act.put, List.setIfInBounds_toArray, List.set_cons_zero, List.set_cons_succ]
            refine wpAnyH_take (i := 7) (oi := { dst := some 45, op := Op.move (Operand.tmp 44), type := 4, pos := "frame.go:106", after := #[{ on := 6, ground := Ground.data }, { on := 1, ground := Ground.chain }, { on := 1, ground := Ground.guard }], guard := some (1, false) }) (v := ?_) rfl (by kernel_rfl) (by kernel_rfl) (by kernel_rfl) (fun _ _ _ h => h) (Or.inl ⟨by rfl, ?_⟩) (by assumption) ?_
            rotate_left
            · intro w hS; obtain ⟨hS0, hS1⟩ := hS; go_simp; with_reducible rfl
            try simp only [Act.put, List.setIfInBounds_toArray, List.set_cons_zero, List.set_cons_succ]
            refine wpAnyH_take (i := 8) (oi := { dst := some 46, op := Op.move (Operand.tmp 8), type := 9, pos := "frame.go:106", after := #[{ on := 7, ground := Ground.guard }], guard := some (7, true) }) (v := ?_) rfl (by kernel_rfl) (by kernel_rfl) (by kernel_rfl) (fun _ _ _ h => h) (Or.inl ⟨by rfl, ?_⟩) (by assumption) ?_
            rotate_left
            · intro w hS; obtain ⟨hS0, hS1⟩ := hS; go_simp; with_reducible rfl
            try simp only [Act.put, List.setIfInBounds_toArray, List.set_cons_zero, List.set_cons_succ]
            refine wpAnyH_take (i := 10) (oi := { dst := some 48, op := Op.fieldAddr 72 (Operand.tmp 13) 0, type := 0, pos := "frame.go:106", after := #[{ on := 7, ground := Ground.guard }], guard := some (7, true) }) (v := ?_) rfl (by kernel_rfl) (by kernel_rfl) (by kernel_rfl) (fun _ _ _ h => h) (Or.inl ⟨by rfl, ?_⟩) (by assumption) ?_
            rotate_left
            · intro w hS; obtain ⟨hS0, hS1⟩ := hS; go_simp; with_reducible rfl
            try simp only [Act.put, List.setIfInBounds_toArray, List.set_cons_zero, List.set_cons_succ]
            refine wpAnyH_take (i := 11) (oi := { dst := some 49, op := Op.load 9 (Operand.tmp 48), type := 9, pos := "frame.go:106", after := #[{ on := 10, ground := Ground.data }, { on := 7, ground := Ground.guard }], guard := some (7, true) }) (v := ?_) rfl (by kernel_rfl) (by kernel_rfl) (by kernel_rfl) (fun _ _ _ h => h) (Or.inl ⟨by rfl, ?_⟩) (by assumption) ?_
            rotate_left
            · intro w hS; obtain ⟨hS0, hS1⟩ := hS; go_simp; with_reducible rfl
            try simp only [Act.put, List.setIfInBounds_toArray, List.set_cons_zero, List.set_cons_succ]
            refine wpAnyH_ready (rs := [9]) (by kernel_rfl) (by simp) (AllReadyH.cons (o := { dst := some 47, op := Op.call { callee := Callee.value (Operand.func 46), args := #[Operand.tmp 46], argTypes := #[9] }, type := 9, pos := "frame.go:106", after := #[{ on := 8, ground := Ground.data }, { on := 7, ground := Ground.chain }, { on := 7, ground := Ground.guard }], guard := some (7, true) }) rfl (fun K hK => ?_) AllReadyH.nil)
            rw [if_pos (by rfl)]
            go_simp
            (refine (hsm _).mono ?_; rintro e wA ⟨rfl, hbA⟩; have gA0 := (hbA.cell (p := ⟨xb1, 0, none⟩) z1).trans f0; have gA1 := (hbA.cell (p := ⟨xb1, 1, none⟩) z1).trans f1; have iA := i1.below ((Below.refl V1.heap.size V1).drew.trans hbA))
            refine hK.out _ _ ⟨gA0, gA1⟩ (fun hS2 => ?_)
            clear hK K
            try simp only [Act.put, List.setIfInBounds_toArray, List.set_cons_zero, List.set_cons_succ]
            refine wpAnyH_take (i := 12) (oi := { dst := some 50, op := Op.binOp BinOp.eql 9 (Operand.tmp 47) (Operand.tmp 49) 9, type := 4, pos := "frame.go:106", after := #[{ on := 9, ground := Ground.data }, { on := 11, ground := Ground.data }, { on := 7, ground := Ground.guard }], guard := some (7, true) }) (v := ?_) rfl (by kernel_rfl) (by kernel_rfl) (by kernel_rfl) (fun _ _ _ h => h) (Or.inl ⟨by rfl, ?_⟩) (by assumption) ?_
            rotate_left
            · intro w hS; obtain ⟨hS0, hS1⟩ := hS; go_simp; with_reducible rfl
            try simp only [Act.put, List.setIfInBounds_toArray, List.set_cons_zero, List.set_cons_succ]
            refine wpAnyH_take (i := 13) (oi := { dst := some 51, op := Op.pick (Operand.tmp 45) (Operand.tmp 50) (Operand.const (Value.bool false)), type := 4, pos := "frame.go:106", after := #[{ on := 7, ground := Ground.data }, { on := 12, ground := Ground.data }, { on := 1, ground := Ground.guard }], guard := some (1, false) }) (v := ?_) rfl (by kernel_rfl) (by kernel_rfl) (by kernel_rfl) (fun _ _ _ h => h) (Or.inl ⟨by rfl, ?_⟩) (by assumption) ?_
            rotate_left
            · intro w hS; obtain ⟨hS0, hS1⟩ := hS; go_simp; with_reducible rfl
            try simp only [Act.put, List.setIfInBounds_toArray, List.set_cons_zero, List.set_cons_succ]
            refine wpAnyH_take (i := 14) (oi := { dst := some 52, op := Op.move (Operand.tmp 51), type := 4, pos := "frame.go:106", after := #[{ on := 13, ground := Ground.data }, { on := 9, ground := Ground.chain }, { on := 1, ground := Ground.guard }], guard := some (1, false) }) (v := ?_) rfl (by kernel_rfl) (by kernel_rfl) (by kernel_rfl) (fun _ _ _ h => h) (Or.inl ⟨by rfl, ?_⟩) (by assumption) ?_
            rotate_left
            · intro w hS; obtain ⟨hS0, hS1⟩ := hS; go_simp; with_reducible rfl
            try simp only [Act.put, List.setIfInBounds_toArray, List.set_cons_zero, List.set_cons_succ]
            refine wpAnyH_take (i := 15) (oi := { dst := some 53, op := Op.fieldAddr 72 (Operand.tmp 13) 1, type := 0, pos := "frame.go:106", after := #[{ on := 14, ground := Ground.guard }], guard := some (14, true) }) (v := undef) rfl (by kernel_rfl) (by kernel_rfl) (by kernel_rfl) (fun _ _ _ h => h) (Or.inr ⟨by rfl, rfl⟩) (by assumption) ?_
            try simp only [Act.put, List.setIfInBounds_toArray, List.set_cons_zero, List.set_cons_succ]
            refine wpAnyH_take (i := 16) (oi := { dst := some 54, op := Op.load 46 (Operand.tmp 53), type := 46, pos := "frame.go:106", after := #[{ on := 15, ground := Ground.data }, { on := 14, ground := Ground.guard }], guard := some (14, true) }) (v := undef) rfl (by kernel_rfl) (by kernel_rfl) (by kernel_rfl) (fun _ _ _ h => h) (Or.inr ⟨by rfl, rfl⟩) (by assumption) ?_
            try simp only [Act.put, List.setIfInBounds_toArray, List.set_cons_zero, List.set_cons_succ]
            refine wpAnyH_take (i := 17) (oi := { dst := some 55, op := Op.move (Operand.tmp 9), type := 9, pos := "frame.go:106", after := #[{ on := 14, ground := Ground.guard }], guard := some (14, true) }) (v := undef) rfl (by kernel_rfl) (by kernel_rfl) (by kernel_rfl) (fun _ _ _ h => h) (Or.inr ⟨by rfl, rfl⟩) (by assumption) ?_
            try simp only [Act.put, List.setIfInBounds_toArray, List.set_cons_zero, List.set_cons_succ]
            refine wpAnyH_take (i := 18) (oi := { dst := some 56, op := Op.call { callee := Callee.value (Operand.tmp 54), args := #[Operand.tmp 55], argTypes := #[9] }, type := 4, pos := "frame.go:106", after := #[{ on := 16, ground := Ground.data }, { on := 17, ground := Ground.data }, { on := 14, ground := Ground.chain }, { on := 14, ground := Ground.guard }], guard := some (14, true) }) (v := undef) rfl (by kernel_rfl) (by kernel_rfl) (by kernel_rfl) (fun _ _ _ h => h) (Or.inr ⟨by rfl, rfl⟩) (by assumption) ?_
            try simp only [Act.put, List.setIfInBounds_toArray, List.set_cons_zero, List.set_cons_succ]
            refine wpAnyH_take (i := 19) (oi := { dst := some 57, op := Op.pick (Operand.tmp 52) (Operand.tmp 56) (Operand.const (Value.bool false)), type := 4, pos := "frame.go:106", after := #[{ on := 14, ground := Ground.data }, { on := 18, ground := Ground.data }, { on := 1, ground := Ground.guard }], guard := some (1, false) }) (v := ?_) rfl (by kernel_rfl) (by kernel_rfl) (by kernel_rfl) (fun _ _ _ h => h) (Or.inl ⟨by rfl, ?_⟩) (by assumption) ?_
            rotate_left
            · intro w hS; obtain ⟨hS0, hS1⟩ := hS; go_simp; with_reducible rfl
            try simp only [Act.put, List.setIfInBounds_toArray, List.set_cons_zero, List.set_cons_succ]
            refine wpAnyH_take (i := 20) (oi := { dst := some 58, op := Op.pick (Operand.tmp 39) (Operand.const (Value.bool true)) (Operand.tmp 57), type := 4, pos := "frame.go:106", after := #[{ on := 1, ground := Ground.data }, { on := 19, ground := Ground.data }], guard := none }) (v := ?_) rfl (by kernel_rfl) (by kernel_rfl) (by kernel_rfl) (fun _ _ _ h => h) (Or.inl ⟨by rfl, ?_⟩) (by assumption) ?_
            rotate_left
            · intro w hS; obtain ⟨hS0, hS1⟩ := hS; go_simp; with_reducible rfl
            try simp only [Act.put, List.setIfInBounds_toArray, List.set_cons_zero, List.set_cons_succ]
            refine wpAnyH_take (i := 21) (oi := { dst := some 11, op := Op.assign (Operand.tmp 58), type := 4, pos := "frame.go:106", after := #[{ on := 20, ground := Ground.data }, { on := 18, ground := Ground.chain }, { on := 0, ground := Ground.phase }, { on := 1, ground := Ground.phase }, { on := 2, ground := Ground.phase }, { on := 3, ground := Ground.phase }, { on := 4, ground := Ground.phase }, { on := 5, ground := Ground.phase }, { on := 6, ground := Ground.phase }, { on := 7, ground := Ground.phase }, { on := 8, ground := Ground.phase }, { on := 9, ground := Ground.phase }, { on := 10, ground := Ground.phase }, { on := 11, ground := Ground.phase }, { on := 12, ground := Ground.phase }, { on := 13, ground := Ground.phase }, { on := 14, ground := Ground.phase }, { on := 15, ground := Ground.phase }, { on := 16, ground := Ground.phase }, { on := 17, ground := Ground.phase }, { on := 18, ground := Ground.phase }, { on := 19, ground := Ground.phase }, { on := 20, ground := Ground.phase }], guard := none }) (v := ?_) rfl (by kernel_rfl) (by kernel_rfl) (by kernel_rfl) (fun _ _ _ h => h) (Or.inl ⟨by rfl, ?_⟩) (by assumption) ?_
            rotate_left
            · intro w hS; obtain ⟨hS0, hS1⟩ := hS; go_simp; with_reducible rfl
            try simp only [Act.put, List.setIfInBounds_toArray, List.set_cons_zero, List.set_cons_succ]
            refine wpAnyH_done (by kernel_rfl) ?_ _
            have j1 := iA
            clear iA gA0 gA1 f0 f1 i1 hbA hHeld hS2
            generalize wA = U1 at j1 ⊢
            go_wp2
            rw [rounds_succ]
            go_wp2
            go_ret
            exact ⟨ret_int HRR.out.symm, j1.low⟩
        · rw [if_neg hB] at hn1
          by_cases hC : (l.data.toList.take j).map lowB = nameTyp
          · rw [if_pos hC] at hn2
            rw [show (⟨((l.data.toList.take j).map lowB).toArray⟩ : ByteArray) = nameTypB by rw [hC]; rfl] at hsm
            have hst : headGo (l.data.toList :: (L.map (·.data.toList)).drop (i + 1)) n k = if k = 0 ∧ plainB V.data.toList = true then headGo ((L.map (·.data.toList)).drop (i + 1)) n (k + 1) else -1 := by
              conv => lhs; unfold headGo
              rw [hn1, hn2]
            by_cases hg : k = 0 ∧ plainB V.data.toList = true
            · have hss : headGo ((L.map (·.data.toList)).drop (i + 1)) n (k + 1) = R := by rw [← HS.out, hst, if_pos hg]
              have HSS := Lib.hid hss
              have hk0 : k + 1 ≤ 1 := by omega
              have hgd : decide (k = 0 ∧ plainB V.data.toList = true) = true := decide_eq_true hg
              clear hst hss hg hn1 hn2 hB hC HS hVl
              go_wp2_with (first
                | (go_at_call 45; refine (hcut _ hm).mono ?_; rintro e w2 ⟨rfl, d, hw2⟩; have hI2 : HInv w w.heap.size L w2 n k := (by rw [hw2]; exact hI.below (below_draws (Below.refl _ _) _)); clear hw2))
              refine wp_loop_rounds 3 ?_
              have k0 : w2.cell? ⟨w.heap.size + 1 + 1, 0, none⟩ = some (.string nameLenB) := hI2.mayc 0 _ rfl
              have k1 : w2.cell? ⟨w.heap.size + 1 + 1, 1, none⟩ = some (.func (.func 40) #[] #[.pointer (some ⟨w.heap.size, 0, none⟩)]) := hI2.mayc 1 _ rfl
              rw [rounds_succ]
              go_wp2
              have i0 : HInv w w.heap.size L (w2.alloc (.cells #[.string nameLenB, .func (.func 40) #[] #[.pointer (some ⟨w.heap.size, 0, none⟩)]] 72)) n k := hI2.below ((Below.refl _ _).alloc (Nat.le_refl _) _)
              have x0 : (w2.alloc (.cells #[.string nameLenB, .func (.func 40) #[] #[.pointer (some ⟨w.heap.size, 0, none⟩)]] 72)).heap[w2.heap.size]? = some (.cells #[.string nameLenB, .func (.func 40) #[] #[.pointer (some ⟨w.heap.size, 0, none⟩)]] 72 (0, 0)) := Array.getElem?_push_size
              have y0 : w.heap.size + 3 < w2.heap.size := hI2.size
              clear k0 k1
              generalize w2.alloc (.cells #[.string nameLenB, .func (.func 40) #[] #[.pointer (some ⟨w.heap.size, 0, none⟩)]] 72) = V0 at i0 x0 ⊢
              generalize w2.heap.size = xb0 at x0 y0 ⊢
              have f0 : V0.cell? ⟨xb0, 0, none⟩ = some (.string nameLenB) := by rw [cell_of_row _ _ 0 _ _ _ x0]; rfl
              have f1 : V0.cell? ⟨xb0, 1, none⟩ = some (.func (.func 40) #[] #[.pointer (some ⟨w.heap.size, 0, none⟩)]) := by rw [cell_of_row _ _ 1 _ _ _ x0]; rfl
              have z0 : xb0 < V0.heap.size := (Array.getElem?_eq_some_iff.1 x0).1
              clear x0
              refine wp_region_held_drew (S := fun v => v.cell? ⟨xb0, 0, none⟩ = some (.string nameLenB) ∧ v.cell? ⟨xb0, 1, none⟩ = some (.func (.func 40) #[] #[.pointer (some ⟨w.heap.size, 0, none⟩)])) (by kernel_rfl) ⟨f0, f1⟩ (fun hHeld => ?_)
              refine wpAnyH_take (i := 0) (oi := { dst := some 38, op := Op.move (Operand.tmp 11), type := 4, pos := "frame.go:106", after := #[], guard := none }) (v := ?_) rfl (by kernel_rfl) (by kernel_rfl) (by kernel_rfl) (fun _ _ _ h => h) (Or.inl ⟨by rfl, ?_⟩) (by assumption) ?_
              rotate_left
              · intro w hS; obtain ⟨hS0, hS1⟩ := hS; go_simp; with_reducible rfl
              try simp only [Act.put, List.setIfInBounds_toArray, List.set_cons_zero, List.set_cons_succ]
              refine wpAnyH_take (i := 1) (oi := { dst := some 39, op := Op.move (Operand.tmp 38), type := 4, pos := "frame.go:106", after := #[{ on := 0, ground := Ground.data }], guard := none }) (v := ?_) rfl (by kernel_rfl) (by kernel_rfl) (by kernel_rfl) (fun _ _ _ h => h) (Or.inl ⟨by rfl, ?_⟩) (by assumption) ?_
              rotate_left
              · intro w hS; obtain ⟨hS0, hS1⟩ := hS; go_simp; with_reducible rfl
              try simp only [Act.put, List.setIfInBounds_toArray, List.set_cons_zero, List.set_cons_succ]
              refine wpAnyH_take (i := 2) (oi := { dst := some 40, op := Op.move (Operand.tmp 7), type := 9, pos := "frame.go:106", after := #[{ on := 1, ground := Ground.guard }], guard := some (1, false) }) (v := ?_) rfl (by kernel_rfl) (by kernel_rfl) (by kernel_rfl) (fun _ _ _ h => h) (Or.inl ⟨by rfl, ?_⟩) (by assumption) ?_
              rotate_left
              · intro w hS; obtain ⟨hS0, hS1⟩ := hS; go_simp; with_reducible rfl
              try simp only [Act.put, List.setIfInBounds_toArray, List.set_cons_zero, List.set_cons_succ]
              refine wpAnyH_take (i := 3) (oi := { dst := some 41, op := Op.call { callee := Callee.builtin Builtin.len, args := #[Operand.tmp 40], argTypes := #[9] }, type := 3, pos := "frame.go:106", after := #[{ on := 2, ground := Ground.data }, { on := 1, ground := Ground.guard }], guard := some (1, false) }) (v := ?_) rfl (by kernel_rfl) (by kernel_rfl) (by kernel_rfl) (fun _ _ _ h => h) (Or.inl ⟨by rfl, ?_⟩) (by assumption) ?_
              rotate_left
              · intro w hS; obtain ⟨hS0, hS1⟩ := hS; go_simp; with_reducible rfl
              try simp only [Act.put, List.setIfInBounds_toArray, List.set_cons_zero, List.set_cons_succ]
              refine wpAnyH_take (i := 4) (oi := { dst := some 42, op := Op.move (Operand.tmp 8), type := 9, pos := "frame.go:106", after := #[{ on := 1, ground := Ground.guard }], guard := some (1, false) }) (v := ?_) rfl (by kernel_rfl) (by kernel_rfl) (by kernel_rfl) (fun _ _ _ h => h) (Or.inl ⟨by rfl, ?_⟩) (by assumption) ?_
              rotate_left
              · intro w hS; obtain ⟨hS0, hS1⟩ := hS; go_simp; with_reducible rfl
              try simp only [Act.put, List.setIfInBounds_toArray, List.set_cons_zero, List.set_cons_succ]
              refine wpAnyH_take (i := 5) (oi := { dst := some 43, op := Op.call { callee := Callee.builtin Builtin.len, args := #[Operand.tmp 42], argTypes := #[9] }, type := 3, pos := "frame.go:106", after := #[{ on := 4, ground := Ground.data }, { on := 1, ground := Ground.guard }], guard := some (1, false) }) (v := ?_) rfl (by kernel_rfl) (by kernel_rfl) (by kernel_rfl) (fun _ _ _ h => h) (Or.inl ⟨by rfl, ?_⟩) (by assumption) ?_
              rotate_left
              · intro w hS; obtain ⟨hS0, hS1⟩ := hS; go_simp; with_reducible rfl
              try simp only [Act.put, List.setIfInBounds_toArray, List.set_cons_zero, List.set_cons_succ]
              refine wpAnyH_take (i := 6) (oi := { dst := some 44, op := Op.binOp BinOp.gtr 3 (Operand.tmp 41) (Operand.tmp 43) 3, type := 4, pos := "frame.go:106", after := #[{ on := 3, ground := Ground.data }, { on := 5, ground := Ground.data }, { on := 1, ground := Ground.guard }], guard := some (1, false) }) (v := ?_) rfl (by kernel_rfl) (by kernel_rfl) (by kernel_rfl) (fun _ _ _ h => h) (Or.inl ⟨by rfl, ?_⟩) (by assumption) ?_
              rotate_left
              · intro w hS; obtain ⟨hS0, hS1⟩ := hS; go_simp; with_reducible rfl
              try simp only [Act.put, List.setIfInBounds_toArray, List.set_cons_zero, List.set_cons_succ]
              refine wpAnyH_take (i := 7) (oi := { dst := some 45, op := Op.move (Operand.tmp 44), type := 4, pos := "frame.go:106", after := #[{ on := 6, ground := Ground.data }, { on := 1, ground := Ground.chain }, { on := 1, ground := Ground.guard }], guard := some (1, false) }) (v := ?_) rfl (by kernel_rfl) (by kernel_rfl) (by kernel_rfl) (fun _ _ _ h => h) (Or.inl ⟨by rfl, ?_⟩) (by assumption) ?_
              rotate_left
              · intro w hS; obtain ⟨hS0, hS1⟩ := hS; go_simp; with_reducible rfl
              try simp only [Act.put, List.setIfInBounds_toArray, List.set_cons_zero, List.set_cons_succ]
              refine wpAnyH_take (i := 8) (oi := { dst := some 46, op := Op.move (Operand.tmp 8), type := 9, pos := "frame.go:106", after := #[{ on := 7, ground := Ground.guard }], guard := some (7, true) }) (v := ?_) rfl (by kernel_rfl) (by kernel_rfl) (by kernel_rfl) (fun _ _ _ h => h) (Or.inl ⟨by rfl, ?_⟩) (by assumption) ?_
              rotate_left
              · intro w hS; obtain ⟨hS0, hS1⟩ := hS; go_simp; with_reducible rfl
              try simp only [Act.put, List.setIfInBounds_toArray, List.set_cons_zero, List.set_cons_succ]
              refine wpAnyH_take (i := 10) (oi := { dst := some 48, op := Op.fieldAddr 72 (Operand.tmp 13) 0, type := 0, pos := "frame.go:106", after := #[{ on := 7, ground := Ground.guard }], guard := some (7, true) }) (v := ?_) rfl (by kernel_rfl) (by kernel_rfl) (by kernel_rfl) (fun _ _ _ h => h) (Or.inl ⟨by rfl, ?_⟩) (by assumption) ?_
              rotate_left
              · intro w hS; obtain ⟨hS0, hS1⟩ := hS; go_simp; with_reducible rfl
              try simp only [Act.put, List.setIfInBounds_toArray, List.set_cons_zero, List.set_cons_succ]
              refine wpAnyH_take (i := 11) (oi := { dst := some 49, op := Op.load 9 (Operand.tmp 48), type := 9, pos := "frame.go:106", after := #[{ on := 10, ground := Ground.data }, { on := 7, ground := Ground.guard }], guard := some (7, true) }) (v := ?_) rfl (by kernel_rfl) (by kernel_rfl) (by kernel_rfl) (fun _ _ _ h => h) (Or.inl ⟨by rfl, ?_⟩) (by assumption) ?_
              rotate_left
              · intro w hS; obtain ⟨hS0, hS1⟩ := hS; go_simp; with_reducible rfl
              try simp only [Act.put, List.setIfInBounds_toArray, List.set_cons_zero, List.set_cons_succ]
              refine wpAnyH_ready (rs := [9]) (by kernel_rfl) (by simp) (AllReadyH.cons (o := { dst := some 47, op := Op.call { callee := Callee.value (Operand.func 46), args := #[Operand.tmp 46], argTypes := #[9] }, type := 9, pos := "frame.go:106", after := #[{ on := 8, ground := Ground.data }, { on := 7, ground := Ground.chain }, { on := 7, ground := Ground.guard }], guard := some (7, true) }) rfl (fun K hK => ?_) AllReadyH.nil)
              rw [if_pos (by rfl)]
              go_simp
              (refine (hsm _).mono ?_; rintro e wA ⟨rfl, hbA⟩; have gA0 := (hbA.cell (p := ⟨xb0, 0, none⟩) z0).trans f0; have gA1 := (hbA.cell (p := ⟨xb0, 1, none⟩) z0).trans f1; have iA := i0.below ((Below.refl V0.heap.size V0).drew.trans hbA))
              refine hK.out _ _ ⟨gA0, gA1⟩ (fun hS2 => ?_)
              clear hK K
              try simp only [Act.put, List.setIfInBounds_toArray, List.set_cons_zero, List.set_cons_succ]
              refine wpAnyH_take (i := 12) (oi := { dst := some 50, op := Op.binOp BinOp.eql 9 (Operand.tmp 47) (Operand.tmp 49) 9, type := 4, pos := "frame.go:106", after := #[{ on := 9, ground := Ground.data }, { on := 11, ground := Ground.data }, { on := 7, ground := Ground.guard }], guard := some (7, true) }) (v := ?_) rfl (by kernel_rfl) (by kernel_rfl) (by kernel_rfl) (fun _ _ _ h => h) (Or.inl ⟨by rfl, ?_⟩) (by assumption) ?_
              rotate_left
              · intro w hS; obtain ⟨hS0, hS1⟩ := hS; go_simp; with_reducible rfl
              try simp only [Act.put, List.setIfInBounds_toArray, List.set_cons_zero, List.set_cons_succ]
              refine wpAnyH_take (i := 13) (oi := { dst := some 51, op := Op.pick (Operand.tmp 45) (Operand.tmp 50) (Operand.const (Value.bool false)), type := 4, pos := "frame.go:106", after := #[{ on := 7, ground := Ground.data }, { on := 12, ground := Ground.data }, { on := 1, ground := Ground.guard }], guard := some (1, false) }) (v := ?_) rfl (by kernel_rfl) (by kernel_rfl) (by kernel_rfl) (fun _ _ _ h => h) (Or.inl ⟨by rfl, ?_⟩) (by assumption) ?_
              rotate_left
              · intro w hS; obtain ⟨hS0, hS1⟩ := hS; go_simp; with_reducible rfl
              try simp only [Act.put, List.setIfInBounds_toArray, List.set_cons_zero, List.set_cons_succ]
              refine wpAnyH_take (i := 14) (oi := { dst := some 52, op := Op.move (Operand.tmp 51), type := 4, pos := "frame.go:106", after := #[{ on := 13, ground := Ground.data }, { on := 9, ground := Ground.chain }, { on := 1, ground := Ground.guard }], guard := some (1, false) }) (v := ?_) rfl (by kernel_rfl) (by kernel_rfl) (by kernel_rfl) (fun _ _ _ h => h) (Or.inl ⟨by rfl, ?_⟩) (by assumption) ?_
              rotate_left
              · intro w hS; obtain ⟨hS0, hS1⟩ := hS; go_simp; with_reducible rfl
              try simp only [Act.put, List.setIfInBounds_toArray, List.set_cons_zero, List.set_cons_succ]
              refine wpAnyH_take (i := 15) (oi := { dst := some 53, op := Op.fieldAddr 72 (Operand.tmp 13) 1, type := 0, pos := "frame.go:106", after := #[{ on := 14, ground := Ground.guard }], guard := some (14, true) }) (v := undef) rfl (by kernel_rfl) (by kernel_rfl) (by kernel_rfl) (fun _ _ _ h => h) (Or.inr ⟨by rfl, rfl⟩) (by assumption) ?_
              try simp only [Act.put, List.setIfInBounds_toArray, List.set_cons_zero, List.set_cons_succ]
              refine wpAnyH_take (i := 16) (oi := { dst := some 54, op := Op.load 46 (Operand.tmp 53), type := 46, pos := "frame.go:106", after := #[{ on := 15, ground := Ground.data }, { on := 14, ground := Ground.guard }], guard := some (14, true) }) (v := undef) rfl (by kernel_rfl) (by kernel_rfl) (by kernel_rfl) (fun _ _ _ h => h) (Or.inr ⟨by rfl, rfl⟩) (by assumption) ?_
              try simp only [Act.put, List.setIfInBounds_toArray, List.set_cons_zero, List.set_cons_succ]
              refine wpAnyH_take (i := 17) (oi := { dst := some 55, op := Op.move (Operand.tmp 9), type := 9, pos := "frame.go:106", after := #[{ on := 14, ground := Ground.guard }], guard := some (14, true) }) (v := undef) rfl (by kernel_rfl) (by kernel_rfl) (by kernel_rfl) (fun _ _ _ h => h) (Or.inr ⟨by rfl, rfl⟩) (by assumption) ?_
              try simp only [Act.put, List.setIfInBounds_toArray, List.set_cons_zero, List.set_cons_succ]
              refine wpAnyH_take (i := 18) (oi := { dst := some 56, op := Op.call { callee := Callee.value (Operand.tmp 54), args := #[Operand.tmp 55], argTypes := #[9] }, type := 4, pos := "frame.go:106", after := #[{ on := 16, ground := Ground.data }, { on := 17, ground := Ground.data }, { on := 14, ground := Ground.chain }, { on := 14, ground := Ground.guard }], guard := some (14, true) }) (v := undef) rfl (by kernel_rfl) (by kernel_rfl) (by kernel_rfl) (fun _ _ _ h => h) (Or.inr ⟨by rfl, rfl⟩) (by assumption) ?_
              try simp only [Act.put, List.setIfInBounds_toArray, List.set_cons_zero, List.set_cons_succ]
              refine wpAnyH_take (i := 19) (oi := { dst := some 57, op := Op.pick (Operand.tmp 52) (Operand.tmp 56) (Operand.const (Value.bool false)), type := 4, pos := "frame.go:106", after := #[{ on := 14, ground := Ground.data }, { on := 18, ground := Ground.data }, { on := 1, ground := Ground.guard }], guard := some (1, false) }) (v := ?_) rfl (by kernel_rfl) (by kernel_rfl) (by kernel_rfl) (fun _ _ _ h => h) (Or.inl ⟨by rfl, ?_⟩) (by assumption) ?_
              rotate_left
              · intro w hS; obtain ⟨hS0, hS1⟩ := hS; go_simp; with_reducible rfl
              try simp only [Act.put, List.setIfInBounds_toArray, List.set_cons_zero, List.set_cons_succ]
              refine wpAnyH_take (i := 20) (oi := { dst := some 58, op := Op.pick (Operand.tmp 39) (Operand.const (Value.bool true)) (Operand.tmp 57), type := 4, pos := "frame.go:106", after := #[{ on := 1, ground := Ground.data }, { on := 19, ground := Ground.data }], guard := none }) (v := ?_) rfl (by kernel_rfl) (by kernel_rfl) (by kernel_rfl) (fun _ _ _ h => h) (Or.inl ⟨by rfl, ?_⟩) (by assumption) ?_
              rotate_left
              · intro w hS; obtain ⟨hS0, hS1⟩ := hS; go_simp; with_reducible rfl
              try simp only [Act.put, List.setIfInBounds_toArray, List.set_cons_zero, List.set_cons_succ]
              refine wpAnyH_take (i := 21) (oi := { dst := some 11, op := Op.assign (Operand.tmp 58), type := 4, pos := "frame.go:106", after := #[{ on := 20, ground := Ground.data }, { on := 18, ground := Ground.chain }, { on := 0, ground := Ground.phase }, { on := 1, ground := Ground.phase }, { on := 2, ground := Ground.phase }, { on := 3, ground := Ground.phase }, { on := 4, ground := Ground.phase }, { on := 5, ground := Ground.phase }, { on := 6, ground := Ground.phase }, { on := 7, ground := Ground.phase }, { on := 8, ground := Ground.phase }, { on := 9, ground := Ground.phase }, { on := 10, ground := Ground.phase }, { on := 11, ground := Ground.phase }, { on := 12, ground := Ground.phase }, { on := 13, ground := Ground.phase }, { on := 14, ground := Ground.phase }, { on := 15, ground := Ground.phase }, { on := 16, ground := Ground.phase }, { on := 17, ground := Ground.phase }, { on := 18, ground := Ground.phase }, { on := 19, ground := Ground.phase }, { on := 20, ground := Ground.phase }], guard := none }) (v := ?_) rfl (by kernel_rfl) (by kernel_rfl) (by kernel_rfl) (fun _ _ _ h => h) (Or.inl ⟨by rfl, ?_⟩) (by assumption) ?_
              rotate_left
              · intro w hS; obtain ⟨hS0, hS1⟩ := hS; go_simp; with_reducible rfl
              try simp only [Act.put, List.setIfInBounds_toArray, List.set_cons_zero, List.set_cons_succ]
              refine wpAnyH_done (by kernel_rfl) ?_ _
              have j0 := iA
              clear iA gA0 gA1 f0 f1 i0 hbA hHeld hS2
              generalize wA = U0 at j0 ⊢
              go_wp2
              have k0 : U0.cell? ⟨w.heap.size + 1 + 1, 2, none⟩ = some (.string nameTypB) := j0.mayc 2 _ rfl
              have k1 : U0.cell? ⟨w.heap.size + 1 + 1, 3, none⟩ = some (.func (.func 42) #[] #[.pointer (some ⟨w.heap.size + 1, 0, none⟩)]) := j0.mayc 3 _ rfl
              rw [rounds_succ]
              go_wp2
              have i1 : HInv w w.heap.size L (U0.alloc (.cells #[.string nameTypB, .func (.func 42) #[] #[.pointer (some ⟨w.heap.size + 1, 0, none⟩)]] 72)) n k := j0.below ((Below.refl _ _).alloc (Nat.le_refl _) _)
              have x1 : (U0.alloc (.cells #[.string nameTypB, .func (.func 42) #[] #[.pointer (some ⟨w.heap.size + 1, 0, none⟩)]] 72)).heap[U0.heap.size]? = some (.cells #[.string nameTypB, .func (.func 42) #[] #[.pointer (some ⟨w.heap.size + 1, 0, none⟩)]] 72 (0, 0)) := Array.getElem?_push_size
              have y1 : w.heap.size + 3 < U0.heap.size := j0.size
              clear k0 k1
              generalize U0.alloc (.cells #[.string nameTypB, .func (.func 42) #[] #[.pointer (some ⟨w.heap.size + 1, 0, none⟩)]] 72) = V1 at i1 x1 ⊢
              generalize U0.heap.size = xb1 at x1 y1 ⊢
              have f0 : V1.cell? ⟨xb1, 0, none⟩ = some (.string nameTypB) := by rw [cell_of_row _ _ 0 _ _ _ x1]; rfl
              have f1 : V1.cell? ⟨xb1, 1, none⟩ = some (.func (.func 42) #[] #[.pointer (some ⟨w.heap.size + 1, 0, none⟩)]) := by rw [cell_of_row _ _ 1 _ _ _ x1]; rfl
              have z1 : xb1 < V1.heap.size := (Array.getElem?_eq_some_iff.1 x1).1
              clear x1
              go_region_held3 (fun v => v.cell? ⟨xb1, 0, none⟩ = some (.string nameTypB) ∧ v.cell? ⟨xb1, 1, none⟩ = some (.func (.func 42) #[] #[.pointer (some ⟨w.heap.size + 1, 0, none⟩)])) (first | exact ⟨f0, f1⟩ | exact ⟨by assumption, by assumption⟩) ((first | (go_at_call 46; refine (hsm _).mono ?_; rintro e wA ⟨rfl, hbA⟩; have gA0 := (hbA.cell (p := ⟨xb1, 0, none⟩) z1).trans f0; have gA1 := (hbA.cell (p := ⟨xb1, 1, none⟩) z1).trans f1; have iA := i1.below ((Below.refl V1.heap.size V1).drew.trans hbA)) | (go_at_call 42; refine (says_typ V (w.heap.size + 1) k _ (by omega) (by omega) iA.two).mono ?_; rintro e wB ⟨rfl, hone, hgB⟩; have gB0 := hgB.cell gA0 (by simp; omega); have gB1 := hgB.cell gA1 (by simp; omega))))
              have j1 := iA.set2 hone hgB
              clear iA gA0 gA1 gB0 gB1 f0 f1 i1 hbA hone hgB
              generalize wB = U1 at j1 ⊢
              go_wp2
              rw [rounds_succ]
              go_wp2
              go_roundw
              case rel => exact ⟨i + 1, k + 1, n, by go_num, by omega, by omega, j1, HSS.out⟩
              case measure => simp [RowKit.intOf]; omega
            · have hr : R = -1 := by rw [← HS.out, hst, if_neg hg]
              have HRR := Lib.hid hr
              have hgd : decide (k = 0 ∧ plainB V.data.toList = true) = false := decide_eq_false hg
              clear hst hr hg hn1 hn2 hB hC HS hVl
              go_wp2_with (first
                | (go_at_call 45; refine (hcut _ hm).mono ?_; rintro e w2 ⟨rfl, d, hw2⟩; have hI2 : HInv w w.heap.size L w2 n k := (by rw [hw2]; exact hI.below (below_draws (Below.refl _ _) _)); clear hw2))
              refine wp_loop_rounds 3 ?_
              have k0 : w2.cell? ⟨w.heap.size + 1 + 1, 0, none⟩ = some (.string nameLenB) := hI2.mayc 0 _ rfl
              have k1 : w2.cell? ⟨w.heap.size + 1 + 1, 1, none⟩ = some (.func (.func 40) #[] #[.pointer (some ⟨w.heap.size, 0, none⟩)]) := hI2.mayc 1 _ rfl
              rw [rounds_succ]
              go_wp2
              have i0 : HInv w w.heap.size L (w2.alloc (.cells #[.string nameLenB, .func (.func 40) #[] #[.pointer (some ⟨w.heap.size, 0, none⟩)]] 72)) n k := hI2.below ((Below.refl _ _).alloc (Nat.le_refl _) _)
              have x0 : (w2.alloc (.cells #[.string nameLenB, .func (.func 40) #[] #[.pointer (some ⟨w.heap.size, 0, none⟩)]] 72)).heap[w2.heap.size]? = some (.cells #[.string nameLenB, .func (.func 40) #[] #[.pointer (some ⟨w.heap.size, 0, none⟩)]] 72 (0, 0)) := Array.getElem?_push_size
              have y0 : w.heap.size + 3 < w2.heap.size := hI2.size
              clear k0 k1
              generalize w2.alloc (.cells #[.string nameLenB, .func (.func 40) #[] #[.pointer (some ⟨w.heap.size, 0, none⟩)]] 72) = V0 at i0 x0 ⊢
              generalize w2.heap.size = xb0 at x0 y0 ⊢
              have f0 : V0.cell? ⟨xb0, 0, none⟩ = some (.string nameLenB) := by rw [cell_of_row _ _ 0 _ _ _ x0]; rfl
              have f1 : V0.cell? ⟨xb0, 1, none⟩ = some (.func (.func 40) #[] #[.pointer (some ⟨w.heap.size, 0, none⟩)]) := by rw [cell_of_row _ _ 1 _ _ _ x0]; rfl
              have z0 : xb0 < V0.heap.size := (Array.getElem?_eq_some_iff.1 x0).1
              clear x0
              refine wp_region_held_drew (S := fun v => v.cell? ⟨xb0, 0, none⟩ = some (.string nameLenB) ∧ v.cell? ⟨xb0, 1, none⟩ = some (.func (.func 40) #[] #[.pointer (some ⟨w.heap.size, 0, none⟩)])) (by kernel_rfl) ⟨f0, f1⟩ (fun hHeld => ?_)
              refine wpAnyH_take (i := 0) (oi := { dst := some 38, op := Op.move (Operand.tmp 11), type := 4, pos := "frame.go:106", after := #[], guard := none }) (v := ?_) rfl (by kernel_rfl) (by kernel_rfl) (by kernel_rfl) (fun _ _ _ h => h) (Or.inl ⟨by rfl, ?_⟩) (by assumption) ?_
              rotate_left
              · intro w hS; obtain ⟨hS0, hS1⟩ := hS; go_simp; with_reducible rfl
              try simp only [Act.put, List.setIfInBounds_toArray, List.set_cons_zero, List.set_cons_succ]
              refine wpAnyH_take (i := 1) (oi := { dst := some 39, op := Op.move (Operand.tmp 38), type := 4, pos := "frame.go:106", after := #[{ on := 0, ground := Ground.data }], guard := none }) (v := ?_) rfl (by kernel_rfl) (by kernel_rfl) (by kernel_rfl) (fun _ _ _ h => h) (Or.inl ⟨by rfl, ?_⟩) (by assumption) ?_
              rotate_left
              · intro w hS; obtain ⟨hS0, hS1⟩ := hS; go_simp; with_reducible rfl
              try simp only [Act.put, List.setIfInBounds_toArray, List.set_cons_zero, List.set_cons_succ]
              refine wpAnyH_take (i := 2) (oi := { dst := some 40, op := Op.move (Operand.tmp 7), type := 9, pos := "frame.go:106", after := #[{ on := 1, ground := Ground.guard }], guard := some (1, false) }) (v := ?_) rfl (by kernel_rfl) (by kernel_rfl) (by kernel_rfl) (fun _ _ _ h => h) (Or.inl ⟨by rfl, ?_⟩) (by assumption) ?_
              rotate_left
              · intro w hS; obtain ⟨hS0, hS1⟩ := hS; go_simp; with_reducible rfl
              try simp only [Act.put, List.setIfInBounds_toArray, List.set_cons_zero, List.set_cons_succ]
              refine wpAnyH_take (i := 3) (oi := { dst := some 41, op := Op.call { callee := Callee.builtin Builtin.len, args := #[Operand.tmp 40], argTypes := #[9] }, type := 3, pos := "frame.go:106", after := #[{ on := 2, ground := Ground.data }, { on := 1, ground := Ground.guard }], guard := some (1, false) }) (v := ?_) rfl (by kernel_rfl) (by kernel_rfl) (by kernel_rfl) (fun _ _ _ h => h) (Or.inl ⟨by rfl, ?_⟩) (by assumption) ?_
              rotate_left
              · intro w hS; obtain ⟨hS0, hS1⟩ := hS; go_simp; with_reducible rfl
              try simp only [Act.put, List.setIfInBounds_toArray, List.set_cons_zero, List.set_cons_succ]
              refine wpAnyH_take (i := 4) (oi := { dst := some 42, op := Op.move (Operand.tmp 8), type := 9, pos := "frame.go:106", after := #[{ on := 1, ground := Ground.guard }], guard := some (1, false) }) (v := ?_) rfl (by kernel_rfl) (by kernel_rfl) (by kernel_rfl) (fun _ _ _ h => h) (Or.inl ⟨by rfl, ?_⟩) (by assumption) ?_
              rotate_left
              · intro w hS; obtain ⟨hS0, hS1⟩ := hS; go_simp; with_reducible rfl
              try simp only [Act.put, List.setIfInBounds_toArray, List.set_cons_zero, List.set_cons_succ]
              refine wpAnyH_take (i := 5) (oi := { dst := some 43, op := Op.call { callee := Callee.builtin Builtin.len, args := #[Operand.tmp 42], argTypes := #[9] }, type := 3, pos := "frame.go:106", after := #[{ on := 4, ground := Ground.data }, { on := 1, ground := Ground.guard }], guard := some (1, false) }) (v := ?_) rfl (by kernel_rfl) (by kernel_rfl) (by kernel_rfl) (fun _ _ _ h => h) (Or.inl ⟨by rfl, ?_⟩) (by assumption) ?_
              rotate_left
              · intro w hS; obtain ⟨hS0, hS1⟩ := hS; go_simp; with_reducible rfl
              try simp only [Act.put, List.setIfInBounds_toArray, List.set_cons_zero, List.set_cons_succ]
              refine wpAnyH_take (i := 6) (oi := { dst := some 44, op := Op.binOp BinOp.gtr 3 (Operand.tmp 41) (Operand.tmp 43) 3, type := 4, pos := "frame.go:106", after := #[{ on := 3, ground := Ground.data }, { on := 5, ground := Ground.data }, { on := 1, ground := Ground.guard }], guard := some (1, false) }) (v := ?_) rfl (by kernel_rfl) (by kernel_rfl) (by kernel_rfl) (fun _ _ _ h => h) (Or.inl ⟨by rfl, ?_⟩) (by assumption) ?_
              rotate_left
              · intro w hS; obtain ⟨hS0, hS1⟩ := hS; go_simp; with_reducible rfl
              try simp only [Act.put, List.setIfInBounds_toArray, List.set_cons_zero, List.set_cons_succ]
              refine wpAnyH_take (i := 7) (oi := { dst := some 45, op := Op.move (Operand.tmp 44), type := 4, pos := "frame.go:106", after := #[{ on := 6, ground := Ground.data }, { on := 1, ground := Ground.chain }, { on := 1, ground := Ground.guard }], guard := some (1, false) }) (v := ?_) rfl (by kernel_rfl) (by kernel_rfl) (by kernel_rfl) (fun _ _ _ h => h) (Or.inl ⟨by rfl, ?_⟩) (by assumption) ?_
              rotate_left
              · intro w hS; obtain ⟨hS0, hS1⟩ := hS; go_simp; with_reducible rfl
              try simp only [Act.put, List.setIfInBounds_toArray, List.set_cons_zero, List.set_cons_succ]
              refine wpAnyH_take (i := 8) (oi := { dst := some 46, op := Op.move (Operand.tmp 8), type := 9, pos := "frame.go:106", after := #[{ on := 7, ground := Ground.guard }], guard := some (7, true) }) (v := ?_) rfl (by kernel_rfl) (by kernel_rfl) (by kernel_rfl) (fun _ _ _ h => h) (Or.inl ⟨by rfl, ?_⟩) (by assumption) ?_
              rotate_left
              · intro w hS; obtain ⟨hS0, hS1⟩ := hS; go_simp; with_reducible rfl
              try simp only [Act.put, List.setIfInBounds_toArray, List.set_cons_zero, List.set_cons_succ]
              refine wpAnyH_take (i := 10) (oi := { dst := some 48, op := Op.fieldAddr 72 (Operand.tmp 13) 0, type := 0, pos := "frame.go:106", after := #[{ on := 7, ground := Ground.guard }], guard := some (7, true) }) (v := ?_) rfl (by kernel_rfl) (by kernel_rfl) (by kernel_rfl) (fun _ _ _ h => h) (Or.inl ⟨by rfl, ?_⟩) (by assumption) ?_
              rotate_left
              · intro w hS; obtain ⟨hS0, hS1⟩ := hS; go_simp; with_reducible rfl
              try simp only [Act.put, List.setIfInBounds_toArray, List.set_cons_zero, List.set_cons_succ]
              refine wpAnyH_take (i := 11) (oi := { dst := some 49, op := Op.load 9 (Operand.tmp 48), type := 9, pos := "frame.go:106", after := #[{ on := 10, ground := Ground.data }, { on := 7, ground := Ground.guard }], guard := some (7, true) }) (v := ?_) rfl (by kernel_rfl) (by kernel_rfl) (by kernel_rfl) (fun _ _ _ h => h) (Or.inl ⟨by rfl, ?_⟩) (by assumption) ?_
              rotate_left
              · intro w hS; obtain ⟨hS0, hS1⟩ := hS; go_simp; with_reducible rfl
              try simp only [Act.put, List.setIfInBounds_toArray, List.set_cons_zero, List.set_cons_succ]
              refine wpAnyH_ready (rs := [9]) (by kernel_rfl) (by simp) (AllReadyH.cons (o := { dst := some 47, op := Op.call { callee := Callee.value (Operand.func 46), args := #[Operand.tmp 46], argTypes := #[9] }, type := 9, pos := "frame.go:106", after := #[{ on := 8, ground := Ground.data }, { on := 7, ground := Ground.chain }, { on := 7, ground := Ground.guard }], guard := some (7, true) }) rfl (fun K hK => ?_) AllReadyH.nil)
              rw [if_pos (by rfl)]
              go_simp
              (refine (hsm _).mono ?_; rintro e wA ⟨rfl, hbA⟩; have gA0 := (hbA.cell (p := ⟨xb0, 0, none⟩) z0).trans f0; have gA1 := (hbA.cell (p := ⟨xb0, 1, none⟩) z0).trans f1; have iA := i0.below ((Below.refl V0.heap.size V0).drew.trans hbA))
              refine hK.out _ _ ⟨gA0, gA1⟩ (fun hS2 => ?_)
              clear hK K
              try simp only [Act.put, List.setIfInBounds_toArray, List.set_cons_zero, List.set_cons_succ]
              refine wpAnyH_take (i := 12) (oi := { dst := some 50, op := Op.binOp BinOp.eql 9 (Operand.tmp 47) (Operand.tmp 49) 9, type := 4, pos := "frame.go:106", after := #[{ on := 9, ground := Ground.data }, { on := 11, ground := Ground.data }, { on := 7, ground := Ground.guard }], guard := some (7, true) }) (v := ?_) rfl (by kernel_rfl) (by kernel_rfl) (by kernel_rfl) (fun _ _ _ h => h) (Or.inl ⟨by rfl, ?_⟩) (by assumption) ?_
              rotate_left
              · intro w hS; obtain ⟨hS0, hS1⟩ := hS; go_simp; with_reducible rfl
              try simp only [Act.put, List.setIfInBounds_toArray, List.set_cons_zero, List.set_cons_succ]
              refine wpAnyH_take (i := 13) (oi := { dst := some 51, op := Op.pick (Operand.tmp 45) (Operand.tmp 50) (Operand.const (Value.bool false)), type := 4, pos := "frame.go:106", after := #[{ on := 7, ground := Ground.data }, { on := 12, ground := Ground.data }, { on := 1, ground := Ground.guard }], guard := some (1, false) }) (v := ?_) rfl (by kernel_rfl) (by kernel_rfl) (by kernel_rfl) (fun _ _ _ h => h) (Or.inl ⟨by rfl, ?_⟩) (by assumption) ?_
              rotate_left
              · intro w hS; obtain ⟨hS0, hS1⟩ := hS; go_simp; with_reducible rfl
              try simp only [Act.put, List.setIfInBounds_toArray, List.set_cons_zero, List.set_cons_succ]
              refine wpAnyH_take (i := 14) (oi := { dst := some 52, op := Op.move (Operand.tmp 51), type := 4, pos := "frame.go:106", after := #[{ on := 13, ground := Ground.data }, { on := 9, ground := Ground.chain }, { on := 1, ground := Ground.guard }], guard := some (1, false) }) (v := ?_) rfl (by kernel_rfl) (by kernel_rfl) (by kernel_rfl) (fun _ _ _ h => h) (Or.inl ⟨by rfl, ?_⟩) (by assumption) ?_
              rotate_left
              · intro w hS; obtain ⟨hS0, hS1⟩ := hS; go_simp; with_reducible rfl
              try simp only [Act.put, List.setIfInBounds_toArray, List.set_cons_zero, List.set_cons_succ]
              refine wpAnyH_take (i := 15) (oi := { dst := some 53, op := Op.fieldAddr 72 (Operand.tmp 13) 1, type := 0, pos := "frame.go:106", after := #[{ on := 14, ground := Ground.guard }], guard := some (14, true) }) (v := undef) rfl (by kernel_rfl) (by kernel_rfl) (by kernel_rfl) (fun _ _ _ h => h) (Or.inr ⟨by rfl, rfl⟩) (by assumption) ?_
              try simp only [Act.put, List.setIfInBounds_toArray, List.set_cons_zero, List.set_cons_succ]
              refine wpAnyH_take (i := 16) (oi := { dst := some 54, op := Op.load 46 (Operand.tmp 53), type := 46, pos := "frame.go:106", after := #[{ on := 15, ground := Ground.data }, { on := 14, ground := Ground.guard }], guard := some (14, true) }) (v := undef) rfl (by kernel_rfl) (by kernel_rfl) (by kernel_rfl) (fun _ _ _ h => h) (Or.inr ⟨by rfl, rfl⟩) (by assumption) ?_
              try simp only [Act.put, List.setIfInBounds_toArray, List.set_cons_zero, List.set_cons_succ]
              refine wpAnyH_take (i := 17) (oi := { dst := some 55, op := Op.move (Operand.tmp 9), type := 9, pos := "frame.go:106", after := #[{ on := 14, ground := Ground.guard }], guard := some (14, true) }) (v := undef) rfl (by kernel_rfl) (by kernel_rfl) (by kernel_rfl) (fun _ _ _ h => h) (Or.inr ⟨by rfl, rfl⟩) (by assumption) ?_
              try simp only [Act.put, List.setIfInBounds_toArray, List.set_cons_zero, List.set_cons_succ]
              refine wpAnyH_take (i := 18) (oi := { dst := some 56, op := Op.call { callee := Callee.value (Operand.tmp 54), args := #[Operand.tmp 55], argTypes := #[9] }, type := 4, pos := "frame.go:106", after := #[{ on := 16, ground := Ground.data }, { on := 17, ground := Ground.data }, { on := 14, ground := Ground.chain }, { on := 14, ground := Ground.guard }], guard := some (14, true) }) (v := undef) rfl (by kernel_rfl) (by kernel_rfl) (by kernel_rfl) (fun _ _ _ h => h) (Or.inr ⟨by rfl, rfl⟩) (by assumption) ?_
              try simp only [Act.put, List.setIfInBounds_toArray, List.set_cons_zero, List.set_cons_succ]
              refine wpAnyH_take (i := 19) (oi := { dst := some 57, op := Op.pick (Operand.tmp 52) (Operand.tmp 56) (Operand.const (Value.bool false)), type := 4, pos := "frame.go:106", after := #[{ on := 14, ground := Ground.data }, { on := 18, ground := Ground.data }, { on := 1, ground := Ground.guard }], guard := some (1, false) }) (v := ?_) rfl (by kernel_rfl) (by kernel_rfl) (by kernel_rfl) (fun _ _ _ h => h) (Or.inl ⟨by rfl, ?_⟩) (by assumption) ?_
              rotate_left
              · intro w hS; obtain ⟨hS0, hS1⟩ := hS; go_simp; with_reducible rfl
              try simp only [Act.put, List.setIfInBounds_toArray, List.set_cons_zero, List.set_cons_succ]
              refine wpAnyH_take (i := 20) (oi := { dst := some 58, op := Op.pick (Operand.tmp 39) (Operand.const (Value.bool true)) (Operand.tmp 57), type := 4, pos := "frame.go:106", after := #[{ on := 1, ground := Ground.data }, { on := 19, ground := Ground.data }], guard := none }) (v := ?_) rfl (by kernel_rfl) (by kernel_rfl) (by kernel_rfl) (fun _ _ _ h => h) (Or.inl ⟨by rfl, ?_⟩) (by assumption) ?_
              rotate_left
              · intro w hS; obtain ⟨hS0, hS1⟩ := hS; go_simp; with_reducible rfl
              try simp only [Act.put, List.setIfInBounds_toArray, List.set_cons_zero, List.set_cons_succ]
              refine wpAnyH_take (i := 21) (oi := { dst := some 11, op := Op.assign (Operand.tmp 58), type := 4, pos := "frame.go:106", after := #[{ on := 20, ground := Ground.data }, { on := 18, ground := Ground.chain }, { on := 0, ground := Ground.phase }, { on := 1, ground := Ground.phase }, { on := 2, ground := Ground.phase }, { on := 3, ground := Ground.phase }, { on := 4, ground := Ground.phase }, { on := 5, ground := Ground.phase }, { on := 6, ground := Ground.phase }, { on := 7, ground := Ground.phase }, { on := 8, ground := Ground.phase }, { on := 9, ground := Ground.phase }, { on := 10, ground := Ground.phase }, { on := 11, ground := Ground.phase }, { on := 12, ground := Ground.phase }, { on := 13, ground := Ground.phase }, { on := 14, ground := Ground.phase }, { on := 15, ground := Ground.phase }, { on := 16, ground := Ground.phase }, { on := 17, ground := Ground.phase }, { on := 18, ground := Ground.phase }, { on := 19, ground := Ground.phase }, { on := 20, ground := Ground.phase }], guard := none }) (v := ?_) rfl (by kernel_rfl) (by kernel_rfl) (by kernel_rfl) (fun _ _ _ h => h) (Or.inl ⟨by rfl, ?_⟩) (by assumption) ?_
              rotate_left
              · intro w hS; obtain ⟨hS0, hS1⟩ := hS; go_simp; with_reducible rfl
              try simp only [Act.put, List.setIfInBounds_toArray, List.set_cons_zero, List.set_cons_succ]
              refine wpAnyH_done (by kernel_rfl) ?_ _
              have j0 := iA
              clear iA gA0 gA1 f0 f1 i0 hbA hHeld hS2
              generalize wA = U0 at j0 ⊢
              go_wp2
              have k0 : U0.cell? ⟨w.heap.size + 1 + 1, 2, none⟩ = some (.string nameTypB) := j0.mayc 2 _ rfl
              have k1 : U0.cell? ⟨w.heap.size + 1 + 1, 3, none⟩ = some (.func (.func 42) #[] #[.pointer (some ⟨w.heap.size + 1, 0, none⟩)]) := j0.mayc 3 _ rfl
              rw [rounds_succ]
              go_wp2
              have i1 : HInv w w.heap.size L (U0.alloc (.cells #[.string nameTypB, .func (.func 42) #[] #[.pointer (some ⟨w.heap.size + 1, 0, none⟩)]] 72)) n k := j0.below ((Below.refl _ _).alloc (Nat.le_refl _) _)
              have x1 : (U0.alloc (.cells #[.string nameTypB, .func (.func 42) #[] #[.pointer (some ⟨w.heap.size + 1, 0, none⟩)]] 72)).heap[U0.heap.size]? = some (.cells #[.string nameTypB, .func (.func 42) #[] #[.pointer (some ⟨w.heap.size + 1, 0, none⟩)]] 72 (0, 0)) := Array.getElem?_push_size
              have y1 : w.heap.size + 3 < U0.heap.size := j0.size
              clear k0 k1
              generalize U0.alloc (.cells #[.string nameTypB, .func (.func 42) #[] #[.pointer (some ⟨w.heap.size + 1, 0, none⟩)]] 72) = V1 at i1 x1 ⊢
              generalize U0.heap.size = xb1 at x1 y1 ⊢
              have f0 : V1.cell? ⟨xb1, 0, none⟩ = some (.string nameTypB) := by rw [cell_of_row _ _ 0 _ _ _ x1]; rfl
              have f1 : V1.cell? ⟨xb1, 1, none⟩ = some (.func (.func 42) #[] #[.pointer (some ⟨w.heap.size + 1, 0, none⟩)]) := by rw [cell_of_row _ _ 1 _ _ _ x1]; rfl
              have z1 : xb1 < V1.heap.size := (Array.getElem?_eq_some_iff.1 x1).1
              clear x1
              go_region_held3 (fun v => v.cell? ⟨xb1, 0, none⟩ = some (.string nameTypB) ∧ v.cell? ⟨xb1, 1, none⟩ = some (.func (.func 42) #[] #[.pointer (some ⟨w.heap.size + 1, 0, none⟩)])) (first | exact ⟨f0, f1⟩ | exact ⟨by assumption, by assumption⟩) ((first | (go_at_call 46; refine (hsm _).mono ?_; rintro e wA ⟨rfl, hbA⟩; have gA0 := (hbA.cell (p := ⟨xb1, 0, none⟩) z1).trans f0; have gA1 := (hbA.cell (p := ⟨xb1, 1, none⟩) z1).trans f1; have iA := i1.below ((Below.refl V1.heap.size V1).drew.trans hbA)) | (go_at_call 42; refine (says_typ V (w.heap.size + 1) k _ (by omega) (by omega) iA.two).mono ?_; rintro e wB ⟨rfl, hone, hgB⟩; have gB0 := hgB.cell gA0 (by simp; omega); have gB1 := hgB.cell gA1 (by simp; omega))))
              have j1 := iA.set2 hone hgB
              clear iA gA0 gA1 gB0 gB1 f0 f1 i1 hbA hone hgB
              generalize wB = U1 at j1 ⊢
              go_wp2
              rw [rounds_succ]
              go_wp2
              go_ret
              exact ⟨ret_int HRR.out.symm, j1.low⟩
          · rw [if_neg hC] at hn2
            have hr : R = -1 := by
              rw [← HS.out]
              unfold headGo
              rw [hn1, hn2]
            have HRR := Lib.hid hr
            obtain ⟨Y, hY⟩ : ∃ Y : ByteArray, (⟨((l.data.toList.take j).map lowB).toArray⟩ : ByteArray) = Y := ⟨_, rfl⟩
            have hYl : Y.data.toList = (l.data.toList.take j).map lowB := by rw [← hY]
            have hy1 : (Y.toList == nameLenB.toList) = false := by
              rw [ByteArray.toList_eq, ByteArray.toList_eq, hYl]
              exact beq_eq_false_iff_ne.2 hB
            have hy2 : (Y.toList == nameTypB.toList) = false := by
              rw [ByteArray.toList_eq, ByteArray.toList_eq, hYl]
              exact beq_eq_false_iff_ne.2 hC
            simp only [hY] at hsm
            clear hr hn1 hn2 hB hC HS hVl hY hYl
            go_wp2_with (first
              | (go_at_call 45; refine (hcut _ hm).mono ?_; rintro e w2 ⟨rfl, d, hw2⟩; have hI2 : HInv w w.heap.size L w2 n k := (by rw [hw2]; exact hI.below (below_draws (Below.refl _ _) _)); clear hw2))
            refine wp_loop_rounds 3 ?_
            have k0 : w2.cell? ⟨w.heap.size + 1 + 1, 0, none⟩ = some (.string nameLenB) := hI2.mayc 0 _ rfl
            have k1 : w2.cell? ⟨w.heap.size + 1 + 1, 1, none⟩ = some (.func (.func 40) #[] #[.pointer (some ⟨w.heap.size, 0, none⟩)]) := hI2.mayc 1 _ rfl
            rw [rounds_succ]
            go_wp2
            have i0 : HInv w w.heap.size L (w2.alloc (.cells #[.string nameLenB, .func (.func 40) #[] #[.pointer (some ⟨w.heap.size, 0, none⟩)]] 72)) n k := hI2.below ((Below.refl _ _).alloc (Nat.le_refl _) _)
            have x0 : (w2.alloc (.cells #[.string nameLenB, .func (.func 40) #[] #[.pointer (some ⟨w.heap.size, 0, none⟩)]] 72)).heap[w2.heap.size]? = some (.cells #[.string nameLenB, .func (.func 40) #[] #[.pointer (some ⟨w.heap.size, 0, none⟩)]] 72 (0, 0)) := Array.getElem?_push_size
            have y0 : w.heap.size + 3 < w2.heap.size := hI2.size
            clear k0 k1
            generalize w2.alloc (.cells #[.string nameLenB, .func (.func 40) #[] #[.pointer (some ⟨w.heap.size, 0, none⟩)]] 72) = V0 at i0 x0 ⊢
            generalize w2.heap.size = xb0 at x0 y0 ⊢
            have f0 : V0.cell? ⟨xb0, 0, none⟩ = some (.string nameLenB) := by rw [cell_of_row _ _ 0 _ _ _ x0]; rfl
            have f1 : V0.cell? ⟨xb0, 1, none⟩ = some (.func (.func 40) #[] #[.pointer (some ⟨w.heap.size, 0, none⟩)]) := by rw [cell_of_row _ _ 1 _ _ _ x0]; rfl
            have z0 : xb0 < V0.heap.size := (Array.getElem?_eq_some_iff.1 x0).1
            clear x0
            refine wp_region_held_drew (S := fun v => v.cell? ⟨xb0, 0, none⟩ = some (.string nameLenB) ∧ v.cell? ⟨xb0, 1, none⟩ = some (.func (.func 40) #[] #[.pointer (some ⟨w.heap.size, 0, none⟩)])) (by kernel_rfl) ⟨f0, f1⟩ (fun hHeld => ?_)
            refine wpAnyH_take (i := 0) (oi := { dst := some 38, op := Op.move (Operand.tmp 11), type := 4, pos := "frame.go:106", after := #[], guard := none }) (v := ?_) rfl (by kernel_rfl) (by kernel_rfl) (by kernel_rfl) (fun _ _ _ h => h) (Or.inl ⟨by rfl, ?_⟩) (by assumption) ?_
            rotate_left
            · intro w hS; obtain ⟨hS0, hS1⟩ := hS; go_simp; with_reducible rfl
            try simp only [Act.put, List.setIfInBounds_toArray, List.set_cons_zero, List.set_cons_succ]
            refine wpAnyH_take (i := 1) (oi := { dst := some 39, op := Op.move (Operand.tmp 38), type := 4, pos := "frame.go:106", after := #[{ on := 0, ground := Ground.data }], guard := none }) (v := ?_) rfl (by kernel_rfl) (by kernel_rfl) (by kernel_rfl) (fun _ _ _ h => h) (Or.inl ⟨by rfl, ?_⟩) (by assumption) ?_
            rotate_left
            · intro w hS; obtain ⟨hS0, hS1⟩ := hS; go_simp; with_reducible rfl
            try simp only [Act.put, List.setIfInBounds_toArray, List.set_cons_zero, List.set_cons_succ]
            refine wpAnyH_take (i := 2) (oi := { dst := some 40, op := Op.move (Operand.tmp 7), type := 9, pos := "frame.go:106", after := #[{ on := 1, ground := Ground.guard }], guard := some (1, false) }) (v := ?_) rfl (by kernel_rfl) (by kernel_rfl) (by kernel_rfl) (fun _ _ _ h => h) (Or.inl ⟨by rfl, ?_⟩) (by assumption) ?_
            rotate_left
            · intro w hS; obtain ⟨hS0, hS1⟩ := hS; go_simp; with_reducible rfl
            try simp only [Act.put, List.setIfInBounds_toArray, List.set_cons_zero, List.set_cons_succ]
            refine wpAnyH_take (i := 3) (oi := { dst := some 41, op := Op.call { callee := Callee.builtin Builtin.len, args := #[Operand.tmp 40], argTypes := #[9] }, type := 3, pos := "frame.go:106", after := #[{ on := 2, ground := Ground.data }, { on := 1, ground := Ground.guard }], guard := some (1, false) }) (v := ?_) rfl (by kernel_rfl) (by kernel_rfl) (by kernel_rfl) (fun _ _ _ h => h) (Or.inl ⟨by rfl, ?_⟩) (by assumption) ?_
            rotate_left
            · intro w hS; obtain ⟨hS0, hS1⟩ := hS; go_simp; with_reducible rfl
            try simp only [Act.put, List.setIfInBounds_toArray, List.set_cons_zero, List.set_cons_succ]
            refine wpAnyH_take (i := 4) (oi := { dst := some 42, op := Op.move (Operand.tmp 8), type := 9, pos := "frame.go:106", after := #[{ on := 1, ground := Ground.guard }], guard := some (1, false) }) (v := ?_) rfl (by kernel_rfl) (by kernel_rfl) (by kernel_rfl) (fun _ _ _ h => h) (Or.inl ⟨by rfl, ?_⟩) (by assumption) ?_
            rotate_left
            · intro w hS; obtain ⟨hS0, hS1⟩ := hS; go_simp; with_reducible rfl
            try simp only [Act.put, List.setIfInBounds_toArray, List.set_cons_zero, List.set_cons_succ]
            refine wpAnyH_take (i := 5) (oi := { dst := some 43, op := Op.call { callee := Callee.builtin Builtin.len, args := #[Operand.tmp 42], argTypes := #[9] }, type := 3, pos := "frame.go:106", after := #[{ on := 4, ground := Ground.data }, { on := 1, ground := Ground.guard }], guard := some (1, false) }) (v := ?_) rfl (by kernel_rfl) (by kernel_rfl) (by kernel_rfl) (fun _ _ _ h => h) (Or.inl ⟨by rfl, ?_⟩) (by assumption) ?_
            rotate_left
            · intro w hS; obtain ⟨hS0, hS1⟩ := hS; go_simp; with_reducible rfl
            try simp only [Act.put, List.setIfInBounds_toArray, List.set_cons_zero, List.set_cons_succ]
            refine wpAnyH_take (i := 6) (oi := { dst := some 44, op := Op.binOp BinOp.gtr 3 (Operand.tmp 41) (Operand.tmp 43) 3, type := 4, pos := "frame.go:106", after := #[{ on := 3, ground := Ground.data }, { on := 5, ground := Ground.data }, { on := 1, ground := Ground.guard }], guard := some (1, false) }) (v := ?_) rfl (by kernel_rfl) (by kernel_rfl) (by kernel_rfl) (fun _ _ _ h => h) (Or.inl ⟨by rfl, ?_⟩) (by assumption) ?_
            rotate_left
            · intro w hS; obtain ⟨hS0, hS1⟩ := hS; go_simp; with_reducible rfl
            try simp only [Act.put, List.setIfInBounds_toArray, List.set_cons_zero, List.set_cons_succ]
            refine wpAnyH_take (i := 7) (oi := { dst := some 45, op := Op.move (Operand.tmp 44), type := 4, pos := "frame.go:106", after := #[{ on := 6, ground := Ground.data }, { on := 1, ground := Ground.chain }, { on := 1, ground := Ground.guard }], guard := some (1, false) }) (v := ?_) rfl (by kernel_rfl) (by kernel_rfl) (by kernel_rfl) (fun _ _ _ h => h) (Or.inl ⟨by rfl, ?_⟩) (by assumption) ?_
            rotate_left
            · intro w hS; obtain ⟨hS0, hS1⟩ := hS; go_simp; with_reducible rfl
            try simp only [Act.put, List.setIfInBounds_toArray, List.set_cons_zero, List.set_cons_succ]
            refine wpAnyH_take (i := 8) (oi := { dst := some 46, op := Op.move (Operand.tmp 8), type := 9, pos := "frame.go:106", after := #[{ on := 7, ground := Ground.guard }], guard := some (7, true) }) (v := ?_) rfl (by kernel_rfl) (by kernel_rfl) (by kernel_rfl) (fun _ _ _ h => h) (Or.inl ⟨by rfl, ?_⟩) (by assumption) ?_
            rotate_left
            · intro w hS; obtain ⟨hS0, hS1⟩ := hS; go_simp; with_reducible rfl
            try simp only [Act.put, List.setIfInBounds_toArray, List.set_cons_zero, List.set_cons_succ]
            refine wpAnyH_take (i := 10) (oi := { dst := some 48, op := Op.fieldAddr 72 (Operand.tmp 13) 0, type := 0, pos := "frame.go:106", after := #[{ on := 7, ground := Ground.guard }], guard := some (7, true) }) (v := ?_) rfl (by kernel_rfl) (by kernel_rfl) (by kernel_rfl) (fun _ _ _ h => h) (Or.inl ⟨by rfl, ?_⟩) (by assumption) ?_
            rotate_left
            · intro w hS; obtain ⟨hS0, hS1⟩ := hS; go_simp; with_reducible rfl
            try simp only [Act.put, List.setIfInBounds_toArray, List.set_cons_zero, List.set_cons_succ]
            refine wpAnyH_take (i := 11) (oi := { dst := some 49, op := Op.load 9 (Operand.tmp 48), type := 9, pos := "frame.go:106", after := #[{ on := 10, ground := Ground.data }, { on := 7, ground := Ground.guard }], guard := some (7, true) }) (v := ?_) rfl (by kernel_rfl) (by kernel_rfl) (by kernel_rfl) (fun _ _ _ h => h) (Or.inl ⟨by rfl, ?_⟩) (by assumption) ?_
            rotate_left
            · intro w hS; obtain ⟨hS0, hS1⟩ := hS; go_simp; with_reducible rfl
            try simp only [Act.put, List.setIfInBounds_toArray, List.set_cons_zero, List.set_cons_succ]
            refine wpAnyH_ready (rs := [9]) (by kernel_rfl) (by simp) (AllReadyH.cons (o := { dst := some 47, op := Op.call { callee := Callee.value (Operand.func 46), args := #[Operand.tmp 46], argTypes := #[9] }, type := 9, pos := "frame.go:106", after := #[{ on := 8, ground := Ground.data }, { on := 7, ground := Ground.chain }, { on := 7, ground := Ground.guard }], guard := some (7, true) }) rfl (fun K hK => ?_) AllReadyH.nil)
            rw [if_pos (by rfl)]
            go_simp
            (refine (hsm _).mono ?_; rintro e wA ⟨rfl, hbA⟩; have gA0 := (hbA.cell (p := ⟨xb0, 0, none⟩) z0).trans f0; have gA1 := (hbA.cell (p := ⟨xb0, 1, none⟩) z0).trans f1; have iA := i0.below ((Below.refl V0.heap.size V0).drew.trans hbA))
            refine hK.out _ _ ⟨gA0, gA1⟩ (fun hS2 => ?_)
            clear hK K
            try simp only [Act.put, List.setIfInBounds_toArray, List.set_cons_zero, List.set_cons_succ]
            refine wpAnyH_take (i := 12) (oi := { dst := some 50, op := Op.binOp BinOp.eql 9 (Operand.tmp 47) (Operand.tmp 49) 9, type := 4, pos := "frame.go:106", after := #[{ on := 9, ground := Ground.data }, { on := 11, ground := Ground.data }, { on := 7, ground := Ground.guard }], guard := some (7, true) }) (v := ?_) rfl (by kernel_rfl) (by kernel_rfl) (by kernel_rfl) (fun _ _ _ h => h) (Or.inl ⟨by rfl, ?_⟩) (by assumption) ?_
            rotate_left
            · intro w hS; obtain ⟨hS0, hS1⟩ := hS; go_simp; with_reducible rfl
            try simp only [Act.put, List.setIfInBounds_toArray, List.set_cons_zero, List.set_cons_succ]
            refine wpAnyH_take (i := 13) (oi := { dst := some 51, op := Op.pick (Operand.tmp 45) (Operand.tmp 50) (Operand.const (Value.bool false)), type := 4, pos := "frame.go:106", after := #[{ on := 7, ground := Ground.data }, { on := 12, ground := Ground.data }, { on := 1, ground := Ground.guard }], guard := some (1, false) }) (v := ?_) rfl (by kernel_rfl) (by kernel_rfl) (by kernel_rfl) (fun _ _ _ h => h) (Or.inl ⟨by rfl, ?_⟩) (by assumption) ?_
            rotate_left
            · intro w hS; obtain ⟨hS0, hS1⟩ := hS; go_simp; with_reducible rfl
            try simp only [Act.put, List.setIfInBounds_toArray, List.set_cons_zero, List.set_cons_succ]
            refine wpAnyH_take (i := 14) (oi := { dst := some 52, op := Op.move (Operand.tmp 51), type := 4, pos := "frame.go:106", after := #[{ on := 13, ground := Ground.data }, { on := 9, ground := Ground.chain }, { on := 1, ground := Ground.guard }], guard := some (1, false) }) (v := ?_) rfl (by kernel_rfl) (by kernel_rfl) (by kernel_rfl) (fun _ _ _ h => h) (Or.inl ⟨by rfl, ?_⟩) (by assumption) ?_
            rotate_left
            · intro w hS; obtain ⟨hS0, hS1⟩ := hS; go_simp; with_reducible rfl
            try simp only [Act.put, List.setIfInBounds_toArray, List.set_cons_zero, List.set_cons_succ]
            refine wpAnyH_take (i := 15) (oi := { dst := some 53, op := Op.fieldAddr 72 (Operand.tmp 13) 1, type := 0, pos := "frame.go:106", after := #[{ on := 14, ground := Ground.guard }], guard := some (14, true) }) (v := undef) rfl (by kernel_rfl) (by kernel_rfl) (by kernel_rfl) (fun _ _ _ h => h) (Or.inr ⟨by rfl, rfl⟩) (by assumption) ?_
            try simp only [Act.put, List.setIfInBounds_toArray, List.set_cons_zero, List.set_cons_succ]
            refine wpAnyH_take (i := 16) (oi := { dst := some 54, op := Op.load 46 (Operand.tmp 53), type := 46, pos := "frame.go:106", after := #[{ on := 15, ground := Ground.data }, { on := 14, ground := Ground.guard }], guard := some (14, true) }) (v := undef) rfl (by kernel_rfl) (by kernel_rfl) (by kernel_rfl) (fun _ _ _ h => h) (Or.inr ⟨by rfl, rfl⟩) (by assumption) ?_
            try simp only [Act.put, List.setIfInBounds_toArray, List.set_cons_zero, List.set_cons_succ]
            refine wpAnyH_take (i := 17) (oi := { dst := some 55, op := Op.move (Operand.tmp 9), type := 9, pos := "frame.go:106", after := #[{ on := 14, ground := Ground.guard }], guard := some (14, true) }) (v := undef) rfl (by kernel_rfl) (by kernel_rfl) (by kernel_rfl) (fun _ _ _ h => h) (Or.inr ⟨by rfl, rfl⟩) (by assumption) ?_
            try simp only [Act.put, List.setIfInBounds_toArray, List.set_cons_zero, List.set_cons_succ]
            refine wpAnyH_take (i := 18) (oi := { dst := some 56, op := Op.call { callee := Callee.value (Operand.tmp 54), args := #[Operand.tmp 55], argTypes := #[9] }, type := 4, pos := "frame.go:106", after := #[{ on := 16, ground := Ground.data }, { on := 17, ground := Ground.data }, { on := 14, ground := Ground.chain }, { on := 14, ground := Ground.guard }], guard := some (14, true) }) (v := undef) rfl (by kernel_rfl) (by kernel_rfl) (by kernel_rfl) (fun _ _ _ h => h) (Or.inr ⟨by rfl, rfl⟩) (by assumption) ?_
            try simp only [Act.put, List.setIfInBounds_toArray, List.set_cons_zero, List.set_cons_succ]
            refine wpAnyH_take (i := 19) (oi := { dst := some 57, op := Op.pick (Operand.tmp 52) (Operand.tmp 56) (Operand.const (Value.bool false)), type := 4, pos := "frame.go:106", after := #[{ on := 14, ground := Ground.data }, { on := 18, ground := Ground.data }, { on := 1, ground := Ground.guard }], guard := some (1, false) }) (v := ?_) rfl (by kernel_rfl) (by kernel_rfl) (by kernel_rfl) (fun _ _ _ h => h) (Or.inl ⟨by rfl, ?_⟩) (by assumption) ?_
            rotate_left
            · intro w hS; obtain ⟨hS0, hS1⟩ := hS; go_simp; with_reducible rfl
            try simp only [Act.put, List.setIfInBounds_toArray, List.set_cons_zero, List.set_cons_succ]
            refine wpAnyH_take (i := 20) (oi := { dst := some 58, op := Op.pick (Operand.tmp 39) (Operand.const (Value.bool true)) (Operand.tmp 57), type := 4, pos := "frame.go:106", after := #[{ on := 1, ground := Ground.data }, { on := 19, ground := Ground.data }], guard := none }) (v := ?_) rfl (by kernel_rfl) (by kernel_rfl) (by kernel_rfl) (fun _ _ _ h => h) (Or.inl ⟨by rfl, ?_⟩) (by assumption) ?_
            rotate_left
            · intro w hS; obtain ⟨hS0, hS1⟩ := hS; go_simp; with_reducible rfl
            try simp only [Act.put, List.setIfInBounds_toArray, List.set_cons_zero, List.set_cons_succ]
            refine wpAnyH_take (i := 21) (oi := { dst := some 11, op := Op.assign (Operand.tmp 58), type := 4, pos := "frame.go:106", after := #[{ on := 20, ground := Ground.data }, { on := 18, ground := Ground.chain }, { on := 0, ground := Ground.phase }, { on := 1, ground := Ground.phase }, { on := 2, ground := Ground.phase }, { on := 3, ground := Ground.phase }, { on := 4, ground := Ground.phase }, { on := 5, ground := Ground.phase }, { on := 6, ground := Ground.phase }, { on := 7, ground := Ground.phase }, { on := 8, ground := Ground.phase }, { on := 9, ground := Ground.phase }, { on := 10, ground := Ground.phase }, { on := 11, ground := Ground.phase }, { on := 12, ground := Ground.phase }, { on := 13, ground := Ground.phase }, { on := 14, ground := Ground.phase }, { on := 15, ground := Ground.phase }, { on := 16, ground := Ground.phase }, { on := 17, ground := Ground.phase }, { on := 18, ground := Ground.phase }, { on := 19, ground := Ground.phase }, { on := 20, ground := Ground.phase }], guard := none }) (v := ?_) rfl (by kernel_rfl) (by kernel_rfl) (by kernel_rfl) (fun _ _ _ h => h) (Or.inl ⟨by rfl, ?_⟩) (by assumption) ?_
            rotate_left
            · intro w hS; obtain ⟨hS0, hS1⟩ := hS; go_simp; with_reducible rfl
            try simp only [Act.put, List.setIfInBounds_toArray, List.set_cons_zero, List.set_cons_succ]
            refine wpAnyH_done (by kernel_rfl) ?_ _
            have j0 := iA
            clear iA gA0 gA1 f0 f1 i0 hbA hHeld hS2
            generalize wA = U0 at j0 ⊢
            go_wp2
            have k0 : U0.cell? ⟨w.heap.size + 1 + 1, 2, none⟩ = some (.string nameTypB) := j0.mayc 2 _ rfl
            have k1 : U0.cell? ⟨w.heap.size + 1 + 1, 3, none⟩ = some (.func (.func 42) #[] #[.pointer (some ⟨w.heap.size + 1, 0, none⟩)]) := j0.mayc 3 _ rfl
            rw [rounds_succ]
            go_wp2
            have i1 : HInv w w.heap.size L (U0.alloc (.cells #[.string nameTypB, .func (.func 42) #[] #[.pointer (some ⟨w.heap.size + 1, 0, none⟩)]] 72)) n k := j0.below ((Below.refl _ _).alloc (Nat.le_refl _) _)
            have x1 : (U0.alloc (.cells #[.string nameTypB, .func (.func 42) #[] #[.pointer (some ⟨w.heap.size + 1, 0, none⟩)]] 72)).heap[U0.heap.size]? = some (.cells #[.string nameTypB, .func (.func 42) #[] #[.pointer (some ⟨w.heap.size + 1, 0, none⟩)]] 72 (0, 0)) := Array.getElem?_push_size
            have y1 : w.heap.size + 3 < U0.heap.size := j0.size
            clear k0 k1
            generalize U0.alloc (.cells #[.string nameTypB, .func (.func 42) #[] #[.pointer (some ⟨w.heap.size + 1, 0, none⟩)]] 72) = V1 at i1 x1 ⊢
            generalize U0.heap.size = xb1 at x1 y1 ⊢
            have f0 : V1.cell? ⟨xb1, 0, none⟩ = some (.string nameTypB) := by rw [cell_of_row _ _ 0 _ _ _ x1]; rfl
            have f1 : V1.cell? ⟨xb1, 1, none⟩ = some (.func (.func 42) #[] #[.pointer (some ⟨w.heap.size + 1, 0, none⟩)]) := by rw [cell_of_row _ _ 1 _ _ _ x1]; rfl
            have z1 : xb1 < V1.heap.size := (Array.getElem?_eq_some_iff.1 x1).1
            clear x1
            refine wp_region_held_drew (S := fun v => v.cell? ⟨xb1, 0, none⟩ = some (.string nameTypB) ∧ v.cell? ⟨xb1, 1, none⟩ = some (.func (.func 42) #[] #[.pointer (some ⟨w.heap.size + 1, 0, none⟩)])) (by kernel_rfl) ⟨f0, f1⟩ (fun hHeld => ?_)
            refine wpAnyH_take (i := 0) (oi := { dst := some 38, op := Op.move (Operand.tmp 11), type := 4, pos := "frame.go:106", after := #[], guard := none }) (v := ?_) rfl (by kernel_rfl) (by kernel_rfl) (by kernel_rfl) (fun _ _ _ h => h) (Or.inl ⟨by rfl, ?_⟩) (by assumption) ?_
            rotate_left
            · intro w hS; obtain ⟨hS0, hS1⟩ := hS; go_simp; with_reducible rfl
            try simp only [Act.put, List.setIfInBounds_toArray, List.set_cons_zero, List.set_cons_succ]
            refine wpAnyH_take (i := 1) (oi := { dst := some 39, op := Op.move (Operand.tmp 38), type := 4, pos := "frame.go:106", after := #[{ on := 0, ground := Ground.data }], guard := none }) (v := ?_) rfl (by kernel_rfl) (by kernel_rfl) (by kernel_rfl) (fun _ _ _ h => h) (Or.inl ⟨by rfl, ?_⟩) (by assumption) ?_
            rotate_left
            · intro w hS; obtain ⟨hS0, hS1⟩ := hS; go_simp; with_reducible rfl
            try simp only [Act.put, List.setIfInBounds_toArray, List.set_cons_zero, List.set_cons_succ]
            refine wpAnyH_take (i := 2) (oi := { dst := some 40, op := Op.move (Operand.tmp 7), type := 9, pos := "frame.go:106", after := #[{ on := 1, ground := Ground.guard }], guard := some (1, false) }) (v := ?_) rfl (by kernel_rfl) (by kernel_rfl) (by kernel_rfl) (fun _ _ _ h => h) (Or.inl ⟨by rfl, ?_⟩) (by assumption) ?_
            rotate_left
            · intro w hS; obtain ⟨hS0, hS1⟩ := hS; go_simp; with_reducible rfl
            try simp only [Act.put, List.setIfInBounds_toArray, List.set_cons_zero, List.set_cons_succ]
            refine wpAnyH_take (i := 3) (oi := { dst := some 41, op := Op.call { callee := Callee.builtin Builtin.len, args := #[Operand.tmp 40], argTypes := #[9] }, type := 3, pos := "frame.go:106", after := #[{ on := 2, ground := Ground.data }, { on := 1, ground := Ground.guard }], guard := some (1, false) }) (v := ?_) rfl (by kernel_rfl) (by kernel_rfl) (by kernel_rfl) (fun _ _ _ h => h) (Or.inl ⟨by rfl, ?_⟩) (by assumption) ?_
            rotate_left
            · intro w hS; obtain ⟨hS0, hS1⟩ := hS; go_simp; with_reducible rfl
            try simp only [Act.put, List.setIfInBounds_toArray, List.set_cons_zero, List.set_cons_succ]
            refine wpAnyH_take (i := 4) (oi := { dst := some 42, op := Op.move (Operand.tmp 8), type := 9, pos := "frame.go:106", after := #[{ on := 1, ground := Ground.guard }], guard := some (1, false) }) (v := ?_) rfl (by kernel_rfl) (by kernel_rfl) (by kernel_rfl) (fun _ _ _ h => h) (Or.inl ⟨by rfl, ?_⟩) (by assumption) ?_
            rotate_left
            · intro w hS; obtain ⟨hS0, hS1⟩ := hS; go_simp; with_reducible rfl
            try simp only [Act.put, List.setIfInBounds_toArray, List.set_cons_zero, List.set_cons_succ]
            refine wpAnyH_take (i := 5) (oi := { dst := some 43, op := Op.call { callee := Callee.builtin Builtin.len, args := #[Operand.tmp 42], argTypes := #[9] }, type := 3, pos := "frame.go:106", after := #[{ on := 4, ground := Ground.data }, { on := 1, ground := Ground.guard }], guard := some (1, false) }) (v := ?_) rfl (by kernel_rfl) (by kernel_rfl) (by kernel_rfl) (fun _ _ _ h => h) (Or.inl ⟨by rfl, ?_⟩) (by assumption) ?_
            rotate_left
            · intro w hS; obtain ⟨hS0, hS1⟩ := hS; go_simp; with_reducible rfl
            try simp only [Act.put, List.setIfInBounds_toArray, List.set_cons_zero, List.set_cons_succ]
            refine wpAnyH_take (i := 6) (oi := { dst := some 44, op := Op.binOp BinOp.gtr 3 (Operand.tmp 41) (Operand.tmp 43) 3, type := 4, pos := "frame.go:106", after := #[{ on := 3, ground := Ground.data }, { on := 5, ground := Ground.data }, { on := 1, ground := Ground.guard }], guard := some (1, false) }) (v := ?_) rfl (by kernel_rfl) (by kernel_rfl) (by kernel_rfl) (fun _ _ _ h => h) (Or.inl ⟨by rfl, ?_⟩) (by assumption) ?_
            rotate_left
            · intro w hS; obtain ⟨hS0, hS1⟩ := hS; go_simp; with_reducible rfl
            try simp only [Act.put, List.setIfInBounds_toArray, List.set_cons_zero, List.set_cons_succ]
            refine wpAnyH_take (i := 7) (oi := { dst := some 45, op := Op.move (Operand.tmp 44), type := 4, pos := "frame.go:106", after := #[{ on := 6, ground := Ground.data }, { on := 1, ground := Ground.chain }, { on := 1, ground := Ground.guard }], guard := some (1, false) }) (v := ?_) rfl (by kernel_rfl) (by kernel_rfl) (by kernel_rfl) (fun _ _ _ h => h) (Or.inl ⟨by rfl, ?_⟩) (by assumption) ?_
            rotate_left
            · intro w hS; obtain ⟨hS0, hS1⟩ := hS; go_simp; with_reducible rfl
            try simp only [Act.put, List.setIfInBounds_toArray, List.set_cons_zero, List.set_cons_succ]
            refine wpAnyH_take (i := 8) (oi := { dst := some 46, op := Op.move (Operand.tmp 8), type := 9, pos := "frame.go:106", after := #[{ on := 7, ground := Ground.guard }], guard := some (7, true) }) (v := ?_) rfl (by kernel_rfl) (by kernel_rfl) (by kernel_rfl) (fun _ _ _ h => h) (Or.inl ⟨by rfl, ?_⟩) (by assumption) ?_
            rotate_left
            · intro w hS; obtain ⟨hS0, hS1⟩ := hS; go_simp; with_reducible rfl
            try simp only [Act.put, List.setIfInBounds_toArray, List.set_cons_zero, List.set_cons_succ]
            refine wpAnyH_take (i := 10) (oi := { dst := some 48, op := Op.fieldAddr 72 (Operand.tmp 13) 0, type := 0, pos := "frame.go:106", after := #[{ on := 7, ground := Ground.guard }], guard := some (7, true) }) (v := ?_) rfl (by kernel_rfl) (by kernel_rfl) (by kernel_rfl) (fun _ _ _ h => h) (Or.inl ⟨by rfl, ?_⟩) (by assumption) ?_
            rotate_left
            · intro w hS; obtain ⟨hS0, hS1⟩ := hS; go_simp; with_reducible rfl
            try simp only [Act.put, List.setIfInBounds_toArray, List.set_cons_zero, List.set_cons_succ]
            refine wpAnyH_take (i := 11) (oi := { dst := some 49, op := Op.load 9 (Operand.tmp 48), type := 9, pos := "frame.go:106", after := #[{ on := 10, ground := Ground.data }, { on := 7, ground := Ground.guard }], guard := some (7, true) }) (v := ?_) rfl (by kernel_rfl) (by kernel_rfl) (by kernel_rfl) (fun _ _ _ h => h) (Or.inl ⟨by rfl, ?_⟩) (by assumption) ?_
            rotate_left
            · intro w hS; obtain ⟨hS0, hS1⟩ := hS; go_simp; with_reducible rfl
            try simp only [Act.put, List.setIfInBounds_toArray, List.set_cons_zero, List.set_cons_succ]
            refine wpAnyH_ready (rs := [9]) (by kernel_rfl) (by simp) (AllReadyH.cons (o := { dst := some 47, op := Op.call { callee := Callee.value (Operand.func 46), args := #[Operand.tmp 46], argTypes := #[9] }, type := 9, pos := "frame.go:106", after := #[{ on := 8, ground := Ground.data }, { on := 7, ground := Ground.chain }, { on := 7, ground := Ground.guard }], guard := some (7, true) }) rfl (fun K hK => ?_) AllReadyH.nil)
            rw [if_pos (by rfl)]
            go_simp
            (refine (hsm _).mono ?_; rintro e wA ⟨rfl, hbA⟩; have gA0 := (hbA.cell (p := ⟨xb1, 0, none⟩) z1).trans f0; have gA1 := (hbA.cell (p := ⟨xb1, 1, none⟩) z1).trans f1; have iA := i1.below ((Below.refl V1.heap.size V1).drew.trans hbA))
            refine hK.out _ _ ⟨gA0, gA1⟩ (fun hS2 => ?_)
            clear hK K
            try simp only [Act.put, List.setIfInBounds_toArray, List.set_cons_zero, List.set_cons_succ]
            refine wpAnyH_take (i := 12) (oi := { dst := some 50, op := Op.binOp BinOp.eql 9 (Operand.tmp 47) (Operand.tmp 49) 9, type := 4, pos := "frame.go:106", after := #[{ on := 9, ground := Ground.data }, { on := 11, ground := Ground.data }, { on := 7, ground := Ground.guard }], guard := some (7, true) }) (v := ?_) rfl (by kernel_rfl) (by kernel_rfl) (by kernel_rfl) (fun _ _ _ h => h) (Or.inl ⟨by rfl, ?_⟩) (by assumption) ?_
            rotate_left
            · intro w hS; obtain ⟨hS0, hS1⟩ := hS; go_simp; with_reducible rfl
            try simp only [Act.put, List.setIfInBounds_toArray, List.set_cons_zero, List.set_cons_succ]
            refine wpAnyH_take (i := 13) (oi := { dst := some 51, op := Op.pick (Operand.tmp 45) (Operand.tmp 50) (Operand.const (Value.bool false)), type := 4, pos := "frame.go:106", after := #[{ on := 7, ground := Ground.data }, { on := 12, ground := Ground.data }, { on := 1, ground := Ground.guard }], guard := some (1, false) }) (v := ?_) rfl (by kernel_rfl) (by kernel_rfl) (by kernel_rfl) (fun _ _ _ h => h) (Or.inl ⟨by rfl, ?_⟩) (by assumption) ?_
            rotate_left
            · intro w hS; obtain ⟨hS0, hS1⟩ := hS; go_simp; with_reducible rfl
            try simp only [Act.put, List.setIfInBounds_toArray, List.set_cons_zero, List.set_cons_succ]
            refine wpAnyH_take (i := 14) (oi := { dst := some 52, op := Op.move (Operand.tmp 51), type := 4, pos := "frame.go:106", after := #[{ on := 13, ground := Ground.data }, { on := 9, ground := Ground.chain }, { on := 1, ground := Ground.guard }], guard := some (1, false) }) (v := ?_) rfl (by kernel_rfl) (by kernel_rfl) (by kernel_rfl) (fun _ _ _ h => h) (Or.inl ⟨by rfl, ?_⟩) (by assumption) ?_
            rotate_left
            · intro w hS; obtain ⟨hS0, hS1⟩ := hS; go_simp; with_reducible rfl
            try simp only [Act.put, List.setIfInBounds_toArray, List.set_cons_zero, List.set_cons_succ]
            refine wpAnyH_take (i := 15) (oi := { dst := some 53, op := Op.fieldAddr 72 (Operand.tmp 13) 1, type := 0, pos := "frame.go:106", after := #[{ on := 14, ground := Ground.guard }], guard := some (14, true) }) (v := undef) rfl (by kernel_rfl) (by kernel_rfl) (by kernel_rfl) (fun _ _ _ h => h) (Or.inr ⟨by rfl, rfl⟩) (by assumption) ?_
            try simp only [Act.put, List.setIfInBounds_toArray, List.set_cons_zero, List.set_cons_succ]
            refine wpAnyH_take (i := 16) (oi := { dst := some 54, op := Op.load 46 (Operand.tmp 53), type := 46, pos := "frame.go:106", after := #[{ on := 15, ground := Ground.data }, { on := 14, ground := Ground.guard }], guard := some (14, true) }) (v := undef) rfl (by kernel_rfl) (by kernel_rfl) (by kernel_rfl) (fun _ _ _ h => h) (Or.inr ⟨by rfl, rfl⟩) (by assumption) ?_
            try simp only [Act.put, List.setIfInBounds_toArray, List.set_cons_zero, List.set_cons_succ]
            refine wpAnyH_take (i := 17) (oi := { dst := some 55, op := Op.move (Operand.tmp 9), type := 9, pos := "frame.go:106", after := #[{ on := 14, ground := Ground.guard }], guard := some (14, true) }) (v := undef) rfl (by kernel_rfl) (by kernel_rfl) (by kernel_rfl) (fun _ _ _ h => h) (Or.inr ⟨by rfl, rfl⟩) (by assumption) ?_
            try simp only [Act.put, List.setIfInBounds_toArray, List.set_cons_zero, List.set_cons_succ]
            refine wpAnyH_take (i := 18) (oi := { dst := some 56, op := Op.call { callee := Callee.value (Operand.tmp 54), args := #[Operand.tmp 55], argTypes := #[9] }, type := 4, pos := "frame.go:106", after := #[{ on := 16, ground := Ground.data }, { on := 17, ground := Ground.data }, { on := 14, ground := Ground.chain }, { on := 14, ground := Ground.guard }], guard := some (14, true) }) (v := undef) rfl (by kernel_rfl) (by kernel_rfl) (by kernel_rfl) (fun _ _ _ h => h) (Or.inr ⟨by rfl, rfl⟩) (by assumption) ?_
            try simp only [Act.put, List.setIfInBounds_toArray, List.set_cons_zero, List.set_cons_succ]
            refine wpAnyH_take (i := 19) (oi := { dst := some 57, op := Op.pick (Operand.tmp 52) (Operand.tmp 56) (Operand.const (Value.bool false)), type := 4, pos := "frame.go:106", after := #[{ on := 14, ground := Ground.data }, { on := 18, ground := Ground.data }, { on := 1, ground := Ground.guard }], guard := some (1, false) }) (v := ?_) rfl (by kernel_rfl) (by kernel_rfl) (by kernel_rfl) (fun _ _ _ h => h) (Or.inl ⟨by rfl, ?_⟩) (by assumption) ?_
            rotate_left
            · intro w hS; obtain ⟨hS0, hS1⟩ := hS; go_simp; with_reducible rfl
            try simp only [Act.put, List.setIfInBounds_toArray, List.set_cons_zero, List.set_cons_succ]
            refine wpAnyH_take (i := 20) (oi := { dst := some 58, op := Op.pick (Operand.tmp 39) (Operand.const (Value.bool true)) (Operand.tmp 57), type := 4, pos := "frame.go:106", after := #[{ on := 1, ground := Ground.data }, { on := 19, ground := Ground.data }], guard := none }) (v := ?_) rfl (by kernel_rfl) (by kernel_rfl) (by kernel_rfl) (fun _ _ _ h => h) (Or.inl ⟨by rfl, ?_⟩) (by assumption) ?_
            rotate_left
            · intro w hS; obtain ⟨hS0, hS1⟩ := hS; go_simp; with_reducible rfl
            try simp only [Act.put, List.setIfInBounds_toArray, List.set_cons_zero, List.set_cons_succ]
            refine wpAnyH_take (i := 21) (oi := { dst := some 11, op := Op.assign (Operand.tmp 58), type := 4, pos := "frame.go:106", after := #[{ on := 20, ground := Ground.data }, { on := 18, ground := Ground.chain }, { on := 0, ground := Ground.phase }, { on := 1, ground := Ground.phase }, { on := 2, ground := Ground.phase }, { on := 3, ground := Ground.phase }, { on := 4, ground := Ground.phase }, { on := 5, ground := Ground.phase }, { on := 6, ground := Ground.phase }, { on := 7, ground := Ground.phase }, { on := 8, ground := Ground.phase }, { on := 9, ground := Ground.phase }, { on := 10, ground := Ground.phase }, { on := 11, ground := Ground.phase }, { on := 12, ground := Ground.phase }, { on := 13, ground := Ground.phase }, { on := 14, ground := Ground.phase }, { on := 15, ground := Ground.phase }, { on := 16, ground := Ground.phase }, { on := 17, ground := Ground.phase }, { on := 18, ground := Ground.phase }, { on := 19, ground := Ground.phase }, { on := 20, ground := Ground.phase }], guard := none }) (v := ?_) rfl (by kernel_rfl) (by kernel_rfl) (by kernel_rfl) (fun _ _ _ h => h) (Or.inl ⟨by rfl, ?_⟩) (by assumption) ?_
            rotate_left
            · intro w hS; obtain ⟨hS0, hS1⟩ := hS; go_simp; with_reducible rfl
            try simp only [Act.put, List.setIfInBounds_toArray, List.set_cons_zero, List.set_cons_succ]
            refine wpAnyH_done (by kernel_rfl) ?_ _
            have j1 := iA
            clear iA gA0 gA1 f0 f1 i1 hbA hHeld hS2
            generalize wA = U1 at j1 ⊢
            go_wp2
            rw [rounds_succ]
            go_wp2
            go_ret
            exact ⟨ret_int HRR.out.symm, j1.low⟩
    · have hr : R = n := by
        rw [← HR2.out, List.drop_eq_nil_of_le (by rw [List.length_map]; omega)]; rfl
      have HRR := Lib.hid hr
      have c0 := hI.one.cell.1
      have hlow := hI.low
      clear hr
      go_wp2
      go_ret
      exact ⟨ret_int HRR.out.symm, hlow⟩
end Go.Proofs.Fr
