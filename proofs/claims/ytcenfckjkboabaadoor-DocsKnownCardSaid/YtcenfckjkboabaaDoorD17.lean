/- slices.SortedFunc at documents; All. -/
import Derived.Test.YtcenfckjkboabaaDoorD16
namespace Go.Proofs.Dc
open Go.RowKit Go.Proofs Go.Lib Go.Maps Go.Shelf Go.Sort

theorem docCells_at {l : List Doc} {k : Nat} {j : Doc} (h : l[k]? = some j) (f : Nat) (hf : f < 3) : (docCells l)[k * 3 + f]? = (docCell j)[f]? := by
  induction l generalizing k with
  | nil => simp at h
  | cons i t ih =>
    show (docCell i ++ docCells t)[k * 3 + f]? = _
    cases k with
    | zero =>
      simp at h
      subst h
      rw [List.getElem?_append_left (by simp [docCell]; omega)]
      simp
    | succ k =>
      simp at h
      rw [List.getElem?_append_right (by simp [docCell]; omega)]
      rw [show (k + 1) * 3 + f - (docCell i).length = k * 3 + f by simp [docCell]; omega]
      exact ih h
theorem flat_list (l : List Doc) : (flatK docCell 3 l.toArray).toList = docCells l := by
  apply List.ext_getElem?
  intro t
  by_cases ht : t < l.length * 3
  · have h1 : t < l.toArray.size * 3 := by simpa using ht
    have hk : t / 3 < l.length := by omega
    have e := docCells_at (l := l) (k := t / 3) (List.getElem?_eq_getElem hk) (t % 3) (Nat.mod_lt _ (by decide))
    rw [show t / 3 * 3 + t % 3 = t by omega] at e
    rw [e, Array.getElem?_toList, Array.getElem?_eq_getElem (by simpa using h1)]
    have hg := get_flatK docCell 3 l.toArray t h1
    rw [getElem!_pos _ t (by simpa using h1)] at hg
    rw [hg]
    have h3 : t % 3 < (docCell l[t / 3]).length := by simp [docCell]; omega
    rw [List.getElem?_eq_getElem h3]
    simp [hk, h3]
  · rw [List.getElem?_eq_none (by simp; omega), List.getElem?_eq_none (by rw [docCells_length]; omega)]
theorem holds_of_own {w : World} {g : Nat} {cur : Array Value} {l : List Doc} (hb : w.heap[g]? = some (.cells cur 38 (0, 0))) (ht : cur.toList.take (l.length * 3) = docCells l) : HoldsK docCell 3 w g 0 l.toArray := by
  intro j hj
  have hj2 : j < l.length * 3 := by simpa using hj
  have e : cur[j]? = some ((flatK docCell 3 l.toArray)[j]!) := by
    rw [← Array.getElem?_toList, ← List.getElem?_take_of_lt hj2, ht, ← flat_list, Array.getElem?_toList, getElem!_pos _ j hj, Array.getElem?_eq_getElem hj]
  constructor
  · simp only [World.cell?, hb, Nat.zero_add]
    exact e
  · simp [World.frozen?, hb]
theorem sorted_heapK {w : World} {g n : Nat} {os : Array Obj} {cur : Array Value} {e : TypeId} {fr : Nat × Nat} (d : Array Doc) (hb : w.heap[g]? = some (.cells cur e fr)) :
    (sortWorldK docCell 3 w g 0 n d os).heap[g]? = some (.cells (putCells id 0 (flatK docCell 3 d) cur) e fr) := by
  have hg : g < w.heap.size := (Array.getElem?_eq_some_iff.1 hb).1
  unfold sortWorldK putRowK
  rw [heap_grow_old _ _ (by simpa using hg)]
  simp [putRow, mapBlock, Sort.ahead, Array.getElem?_modify, hb, onCells]
theorem sorted_grownK {w : World} {g n : Nat} {os : Array Obj} (d : Array Doc) : w.grownBy (sortWorldK docCell 3 w g 0 n d os) (some g) := by
  refine ⟨rfl, rfl, rfl, by simp [sortWorldK, putRowK], fun k hk hne => ?_⟩
  unfold sortWorldK putRowK
  rw [heap_grow_old _ _ (by simpa using hk)]
  have : g ≠ k := fun e => hne (by rw [e])
  simp [putRow, mapBlock, Sort.ahead, Array.getElem?_modify, this]
theorem sorted_takeK (cur : Array Value) (ts : List Doc) (h : ts.length * 3 ≤ cur.size) : (putCells id 0 (flatK docCell 3 ts.toArray) cur).toList.take (ts.length * 3) = docCells ts := by
  rw [← flat_list]
  apply List.ext_getElem?
  intro j
  by_cases hj : j < ts.length * 3
  · rw [List.getElem?_take_of_lt hj, Array.getElem?_toList, Array.getElem?_toList]
    have hf : j < (flatK docCell 3 ts.toArray).size := by simpa using hj
    rw [Array.getElem?_eq_getElem hf]
    simp [putCells, hj, show j < cur.size by omega]
  · rw [List.getElem?_take_eq_none (by omega), List.getElem?_eq_none (by simp; omega)]
theorem agg38 (w : World) : (isAgg 38).run Tryd.prog w = .ok true w := Tryd.isAgg38 w
theorem size38 (w : World) : (Go.sizeOf 38).run Tryd.prog w = .ok 3 w := Tryd.sizeOf38 w
/-- sorting what was collected gives the documents in their order -/
theorem sort_any (w : World) (B : Nat) (v : Value) (ds L : List Doc) (hO : Ord L) (hp : ds.Perm L) (hN : L.length ≤ 1000000) (hrow : w.ownsRow B 38 3 v ds.length (docCells ds)) :
    Calls Tryd.prog 52 #[v, .func (.func 39) #[] #[]] w fun e w' => e = .returned (.tuple #[]) ∧ w'.ownsRow B 38 3 v L.length (docCells L) ∧ w.grownBy w' v.ownBlock := by
  have hlen := hp.length_eq
  rcases hrow.2 with ⟨h1, h2⟩ | ⟨g, cap, cur, h1, h2, h3, h4, h5, h6, h7⟩
  · subst h1
    have hds : ds = [] := List.length_eq_zero_iff.1 h2
    have hL : L = [] := List.length_eq_zero_iff.1 (by rw [← hlen]; exact h2)
    subst hds hL
    exact (AnyF.slices_SortFunc_none Tryd.sortK none 0 _ w).mono fun e w' ⟨he, hw⟩ => ⟨he, by rw [hw]; exact hrow, by rw [hw]; exact World.grownBy.refl _ _⟩
  · subst h1
    have hH := holds_of_own h3 h7
    have hg : g < w.heap.size := (Array.getElem?_eq_some_iff.1 h3).1
    have hs := AnyQ.slices_SortFunc Tryd.sortK 3 agg38 size38 docCell (fun _ => rfl) docCell_ones cfD swo_cf 39 #[] g 0 cap ds.toArray w (enters_of Tryd.func39 (by kernel_rfl) rfl) (cmp_lays _ _ _ _) hH hg (by simp; omega)
    refine hs.mono fun e w' ⟨he, d', n, os, hpm, hst, hw⟩ => ⟨he, ?_, ?_⟩
    · obtain ⟨hsz, _, hpp⟩ := hpm
      have hdl : d'.toList = L := by
        have e1 : (d'.extract 0 ds.toArray.size).toList = d'.toList := by rw [← hsz]; simp
        have e2 : (ds.toArray.extract 0 ds.toArray.size).toList = ds := by simp
        rw [e1, e2] at hpp
        refine sorted_eq hO (hpp.trans hp) ?_
        rw [List.pairwise_iff_getElem]
        intro i j hi hj hij
        have hz : d'.toList.length = d'.size := by simp
        have := hst i j (Nat.zero_le _) hij (by rw [← hsz]; omega)
        rw [lt_cf, getElem!_pos _ j (by omega), getElem!_pos _ i (by omega)] at this
        simpa using this
      have hd : d' = L.toArray := by rw [← hdl]
      subst hd
      rw [hw]
      refine ⟨docCells_length L, .inr ⟨g, cap, _, by rw [hlen], h2, sorted_heapK _ h3, by omega, h5, by simp [putCells, h6], sorted_takeK _ _ (by rw [h6]; omega)⟩⟩
    · rw [hw]
      exact sorted_grownK _
set_option maxHeartbeats 1000000 in
theorem sortedFunc_any (lb : Array Value) (L : List Doc) (hO : Ord L) (hN : L.length ≤ 1000000) (w : World) (hseq : SeqStopsK Fence.wide 4 Tryd.prog 53 lb (fun d => #[docVal d]) KeepsWalks (fun xs => xs.Perm L) (fun _ => True) L.length w) :
    Calls Tryd.prog 37 #[.func (.func 53) #[] lb, .func (.func 39) #[] #[]] w fun e w' => ∃ v, e = .returned v ∧ w'.ownsRow w.heap.size 38 3 v L.length (docCells L) ∧ Below w.heap.size w w' := by
  have hc := collect_any lb L hN w hseq
  go_enter Tryd.func37, Tryd.ntmps37
  go_wp2_with (first
    | (go_at_call 51; refine hc.mono ?_; rintro e w1 ⟨v, ds, rfl, h1, h2, h3, h4⟩)
    | (go_at_call 52; refine (sort_any _ _ _ ds L hO h1 hN h2).mono ?_; rintro e w2 ⟨rfl, h5, h6⟩))
  go_ret
  exact ⟨v, rfl, h5, h4.grown h6 h4.size (fun k hk => (h2.lt k hk).1)⟩
set_option maxRecDepth 100000 in
set_option maxHeartbeats 1000000 in
theorem all_any (w : World) (b M : Nat) (L : List Doc) (h : DV w b M L) (hO : Ord L) (hN : L.length ≤ 1000000) : Calls Tryd.prog 20 #[.pointer (some ⟨b, 0, none⟩)] w fun e w' => ∃ v, e = .returned v ∧ w'.ownsRow w.heap.size 38 3 v L.length (docCells L) ∧ Below w.heap.size w w' := by
  have hi := is_any w b M L h
  have hc := h.cell
  have hB : Below w.heap.size w (w.alloc (.cells #[.map (some M)] 57)) := (Below.refl _ w).alloc (Nat.le_refl _) _
  have hm : (w.alloc (.cells #[.map (some M)] 57)).cell? ⟨w.heap.size, 0, none⟩ = some (.map (some M)) := cell_of_row _ _ 0 _ _ _ (World.alloc_heap_new w _)
  have hv := values_any M w
  have hseq := values_stops 4 (by decide) w.heap.size M L hO (w.alloc (.cells #[.map (some M)] 57)) (by simp) hm (h.below hB).mp
  have hsf := sortedFunc_any _ L hO hN _ hseq
  have hsz : (w.alloc (.cells #[.map (some M)] 57)).heap.size = w.heap.size + 1 := by simp
  clear h hm hseq
  generalize w.alloc (.cells #[.map (some M)] 57) = V at *
  go_enter Tryd.func20, Tryd.ntmps20
  go_wp2_with (first
    | (go_at_call 34; refine hi.mono ?_; rintro e w1 ⟨rfl, hw⟩; subst w1)
    | (go_at_call 38; refine hv.mono ?_; rintro e w2 ⟨rfl, hw⟩; subst w2)
    | (go_at_call 37; refine hsf.mono ?_; rintro e w3 ⟨v, rfl, h3, h4⟩))
  go_ret
  refine ⟨v, rfl, ⟨h3.1, ?_⟩, hB.trans (h4.mono hB.size)⟩
  rcases h3.2 with h5 | ⟨g, cap, cur, g1, g2, g3⟩
  · exact .inl h5
  · exact .inr ⟨g, cap, cur, g1, by omega, g3⟩
end Go.Proofs.Dc
