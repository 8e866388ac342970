/- Pending: the collected ids, sorted by the jobs' numbers, are the jobs in their order; what a sort leaves of the heap. -/
import Derived.Test.YtkejopmohnfpgaaP1
import Derived.Maps.RangeWalk
import Derived.Maps.AppendAt
import Derived.Sort.KeysCollected
import Derived.Sort.OwnSorted
namespace Go.Proofs.Ytkejopmohnfpgaa
open Go.RowKit Go.Maps Go.Lib Go.Sort

abbrev InL (L : List J) := {j : J // j ∈ L}
def enIn (L : List J) (j : InL L) : Value := .string j.1.id
def cfIn (L : List J) (a b : InL L) : Int := compareInt (a.1.num : Int) (b.1.num : Int)
theorem ltIn {L : List J} (a b : InL L) : ltOf (cfIn L) a b = decide (a.1.num < b.1.num) := by
  unfold ltOf cfIn compareInt
  by_cases h1 : (a.1.num : Int) < b.1.num
  · simp [h1]; omega
  · by_cases h2 : (b.1.num : Int) < a.1.num
    · simp [h1, h2]; omega
    · simp [h1, h2]; omega
theorem swoIn (L : List J) : SWO (ltOf (cfIn L)) where
  irrefl x := by rw [ltIn]; simp
  trans x y z h1 h2 := by rw [ltIn] at *; simp at *; omega
  ntrans x y z h1 h2 := by rw [ltIn] at *; simp at *; omega
def Rising (L : List J) : Prop := L.Pairwise fun a b => a.num < b.num
theorem Rising.uniq {L : List J} (h : Rising L) {a b : J} (ha : a ∈ L) (hb : b ∈ L) (e : a.num = b.num) : a = b := by
  induction L with
  | nil => cases ha
  | cons x t ih =>
    obtain ⟨h1, h2⟩ := List.pairwise_cons.1 h
    rcases List.mem_cons.1 ha with rfl | ha'
    · rcases List.mem_cons.1 hb with rfl | hb'
      · rfl
      · have := h1 b hb'; omega
    · rcases List.mem_cons.1 hb with rfl | hb'
      · have := h1 a ha'; omega
      · exact ih h2 ha' hb'
theorem totIn {L : List J} (h : Rising L) (x y : InL L) (h1 : ltOf (cfIn L) x y = false) (h2 : ltOf (cfIn L) y x = false) : x = y := by
  rw [ltIn] at h1 h2
  simp at h1 h2
  exact Subtype.ext (h.uniq x.2 y.2 (by omega))
theorem sort_attach {L : List J} (h : Rising L) {ds : List (InL L)} (hp : ds.Perm L.attach) : ds.mergeSort (fun x y => !(ltOf (cfIn L)) y x) = L.attach := by
  have e : ∀ x y : InL L, (!(ltOf (cfIn L)) y x) = decide (x.1.num ≤ y.1.num) := by
    intro x y
    rw [ltIn]
    by_cases hh : y.1.num < x.1.num
    · simp [hh]
    · simp [hh]; omega
  have tr : ∀ a b c : InL L, (!(ltOf (cfIn L)) b a) = true → (!(ltOf (cfIn L)) c b) = true → (!(ltOf (cfIn L)) c a) = true := fun a b c h1 h2 => by simp only [e, decide_eq_true_eq] at *; omega
  have to : ∀ a b : InL L, ((!(ltOf (cfIn L)) b a) || !(ltOf (cfIn L)) a b) = true := fun a b => by simp only [e, Bool.or_eq_true, decide_eq_true_eq]; omega
  refine List.Perm.eq_of_pairwise (le := fun a b => (!(ltOf (cfIn L)) b a) = true) (fun a b _ _ h1 h2 => ?_) (List.pairwise_mergeSort tr to ds) ?_ ((List.mergeSort_perm ds _).trans hp)
  · simp only [e, decide_eq_true_eq] at h1 h2
    exact Subtype.ext (h.uniq a.2 b.2 (by omega))
  · have : (L.attach.map Subtype.val).Pairwise fun a b => a.num < b.num := by rw [List.attach_map_subtype_val]; exact h
    refine (List.pairwise_map.1 this).imp fun {a b} hab => ?_
    simp only [e, decide_eq_true_eq]
    omega
theorem apart_nodup {L : List J} (h : Apart L) : L.Nodup := h.imp fun {a b} hab e => hab.1 (by rw [e])
/-- what was collected is the jobs' ids, in another order -/
theorem collected_jobs {L : List J} {ss : List (List UInt8)} (ha : Apart L) (hn : ss.Nodup) (hm : ∀ x, x ∈ ss ↔ ∃ j ∈ L, j.id.data.toList = x) :
    ∃ ds : List (InL L), ds.Perm L.attach ∧ ds.map (enIn L) = ss.map encStr ∧ ds.length = ss.length := by
  have hch : ∀ x : {x // x ∈ ss}, ∃ j : InL L, j.1.id.data.toList = x.1 := fun x => by
    obtain ⟨j, hj, e⟩ := (hm x.1).1 x.2
    exact ⟨⟨j, hj⟩, e⟩
  obtain ⟨f, hf⟩ := Classical.axiomOfChoice hch
  have hid : (ss.attach.map f).map (fun j : InL L => j.1.id.data.toList) = ss := by
    rw [List.map_map, show ((fun j : InL L => j.1.id.data.toList) ∘ f) = Subtype.val from funext hf, List.attach_map_subtype_val]
  refine ⟨ss.attach.map f, ?_, ?_, by simp⟩
  · have n1 : (ss.attach.map f).Nodup := by
      have : ((ss.attach.map f).map (fun j : InL L => j.1.id.data.toList)).Nodup := by rw [hid]; exact hn
      exact (List.pairwise_map.1 this).imp fun {a b} hab e => hab (by rw [e])
    have n2 : L.attach.Nodup := by
      have : (L.attach.map Subtype.val).Nodup := by rw [List.attach_map_subtype_val]; exact apart_nodup ha
      exact (List.pairwise_map.1 this).imp fun {a b} hab e => hab (by rw [e])
    refine (List.perm_ext_iff_of_nodup n1 n2).2 fun j => ⟨fun _ => List.mem_attach _ _, fun _ => ?_⟩
    have hx : j.1.id.data.toList ∈ ss := (hm _).2 ⟨j.1, j.2, rfl⟩
    refine List.mem_map.2 ⟨⟨_, hx⟩, List.mem_attach _ _, ?_⟩
    refine Subtype.ext (ha.uniq (f ⟨_, hx⟩).2 j.2 ?_)
    have := hf ⟨_, hx⟩
    exact key_inj (congrArg Lit.string this)
  · rw [List.map_map]
    have : ((enIn L) ∘ f) = encStr ∘ Subtype.val := funext fun x => by
      have := hf x
      simp [enIn, encStr, Function.comp, ← this]
    rw [this, ← List.map_map, List.attach_map_subtype_val]
theorem sorted_heap {α : Type} [Inhabited α] {enc : α → Value} {w : World} {g n : Nat} {os : Array Obj} {cur : Array Value} {e : TypeId} {fr : Nat × Nat} (d : Array α) (hb : w.heap[g]? = some (.cells cur e fr)) :
    (sortWorld enc w g 0 n d os).heap[g]? = some (.cells (putCells enc 0 d cur) e fr) := by
  have hg : g < w.heap.size := (Array.getElem?_eq_some_iff.1 hb).1
  unfold sortWorld
  rw [heap_grow_old _ _ (by simpa using hg)]
  simp [putRow, mapBlock, Sort.ahead, Array.getElem?_modify, hb, onCells]
theorem sorted_grown {α : Type} [Inhabited α] {enc : α → Value} {w : World} {g n : Nat} {os : Array Obj} (d : Array α) : w.grownBy (sortWorld enc w g 0 n d os) (some g) := by
  refine ⟨rfl, rfl, rfl, by simp [sortWorld], fun k hk hne => ?_⟩
  unfold sortWorld
  rw [heap_grow_old _ _ (by simpa using hk)]
  have : g ≠ k := fun e => hne (by rw [e])
  simp [putRow, mapBlock, Sort.ahead, Array.getElem?_modify, this]
theorem sorted_take {α : Type} [Inhabited α] {enc : α → Value} (cur : Array Value) (ts : List α) (h : ts.length ≤ cur.size) : (putCells enc 0 ts.toArray cur).toList.take ts.length = ts.map enc := by
  apply List.ext_getElem?
  intro j
  by_cases hj : j < ts.length
  · rw [List.getElem?_take_of_lt hj, Array.getElem?_toList]
    simp [putCells, hj, show j < cur.size by omega]
  · rw [List.getElem?_take_eq_none (by omega), List.getElem?_eq_none (by simp; omega)]
end Go.Proofs.Ytkejopmohnfpgaa
