/- What a queue is in memory, and plain laws on its jobs. -/
import Derived.Test.YtkejopmohnfpgaaRows
import Derived.WalkKit
import Derived.WalkSpells
import Derived.WalkLawsBesides
import Derived.Maps.OwnSet
import Derived.Lib.Hide
namespace Go.Proofs.Ytkejopmohnfpgaa
open Go.RowKit Go.Maps

/-- a job: its id, what it is, the how manieth, taken?, marked?, where it lies -/
structure J where
  id : ByteArray
  x : Value
  num : Nat
  taken : Bool
  marked : Bool
  blk : Nat
structure QS where
  most : Nat
  L : List J
  pushed : Nat
  closed : Bool
def lineL (L : List J) : List ByteArray := (L.filter fun j => !j.taken).map (·.id)
def hasL (L : List J) (id : ByteArray) : Bool := L.any fun j => decide (j.id = id)
def key (s : ByteArray) : Lit := .string s.data.toList
theorem key_inj {s t : ByteArray} (h : key s = key t) : s = t := by
  cases s; cases t
  simp only [key, Lit.string.injEq] at h
  rw [Array.ext' h]
def ptrElem : Value → Option (DataW Unit × List MemPlace)
  | .pointer none => some (.nil, [])
  | .pointer (some ⟨b, 0, none⟩) => some (.lit (.int .i64 b), [])
  | _ => none
theorem ptrElem_inv {v : Value} {b : Int} {ps : List MemPlace} (h : ptrElem v = some (.lit (.int .i64 b), ps)) : ∃ n : Nat, v = .pointer (some ⟨n, 0, none⟩) ∧ b = n := by
  unfold ptrElem at h
  split at h
  · simp at h
  · rename_i n
    simp at h
    exact ⟨n, rfl, h.1.symm⟩
  · cases h
theorem ptrElem_nil {v : Value} {ps : List MemPlace} (h : ptrElem v = some (.nil, ps)) : v = .pointer none := by
  unfold ptrElem at h
  split at h
  · rfl
  · simp at h
  · cases h
/-- the map reads as the jobs -/
structure MapIs (D : DataW Unit) (L : List J) : Prop where
  isMap : IsMap D
  has : ∀ s : ByteArray, Maps.has D (key s) = hasL L s
  at_ : ∀ j ∈ L, D.atKey (key j.id) .nil = .lit (.int .i64 j.blk)
def Apart (L : List J) : Prop := L.Pairwise fun a b => a.id ≠ b.id ∧ a.blk ≠ b.blk
theorem hasL_false {L : List J} {id : ByteArray} (h : hasL L id = false) : ∀ j ∈ L, j.id ≠ id := by
  intro j hj e
  unfold hasL at h
  rw [List.any_eq_false] at h
  exact h j hj (decide_eq_true e)
theorem hasL_true {L : List J} {id : ByteArray} (h : hasL L id = true) : ∃ j ∈ L, j.id = id := by
  unfold hasL at h
  rw [List.any_eq_true] at h
  obtain ⟨j, hj, e⟩ := h
  exact ⟨j, hj, of_decide_eq_true e⟩
theorem MapIs.made : MapIs (.map []) [] := ⟨isMap_empty, fun _ => rfl, fun j h => by cases h⟩
theorem MapIs.push {D : DataW Unit} {L : List J} (h : MapIs D L) {j : J} (hn : hasL L j.id = false) : MapIs (D.put (key j.id) (.lit (.int .i64 j.blk))) (L ++ [j]) := by
  have hk : WideAt.IsKeyLit (key j.id) := by simp [key, WideAt.IsKeyLit]
  refine ⟨h.isMap.put _ _, fun s => ?_, fun i hi => ?_⟩
  · by_cases e : s = j.id
    · subst e
      rw [has_put_same h.isMap hk]
      simp [hasL]
    · rw [has_put_other (fun h' => e (key_inj h')), h.has s]
      have hne : ¬ j.id = s := fun h' => e h'.symm
      simp [hasL, hne]
  · rcases List.mem_append.1 hi with hi | hi
    · rw [atKey_put_other (fun h' => hasL_false hn i hi (key_inj h'))]
      exact h.at_ i hi
    · simp at hi
      subst hi
      exact atKey_put_same h.isMap hk _ _
theorem MapIs.drop {D : DataW Unit} {L : List J} (h : MapIs D L) (id : ByteArray) : MapIs (D.del (key id)) (L.filter fun j => decide (j.id ≠ id)) := by
  refine ⟨h.isMap.del _, fun s => ?_, fun i hi => ?_⟩
  · by_cases e : s = id
    · subst e
      rw [has_del_same]
      simp [hasL]
    · rw [has_del_other (fun h' => e (key_inj h')), h.has s]
      unfold hasL
      rw [List.any_filter]
      congr 1
      funext j
      by_cases hj : j.id = s
      · subst hj; simp [e]
      · simp [hj]
  · obtain ⟨h1, h2⟩ := List.mem_filter.1 hi
    rw [atKey_del_other (fun h' => of_decide_eq_true h2 (key_inj h'))]
    exact h.at_ i h1
/-- one job turned, its id and place kept -/
def turn (L : List J) (id : ByteArray) (f : J → J) : List J := L.map fun j => if j.id = id then f j else j
theorem hasL_turn {L : List J} {id : ByteArray} {f : J → J} (hf : ∀ j, (f j).id = j.id) (s : ByteArray) : hasL (turn L id f) s = hasL L s := by
  unfold hasL turn
  rw [List.any_map]
  congr 1
  funext j
  simp only [Function.comp]
  split <;> simp [hf]
theorem MapIs.turn {D : DataW Unit} {L : List J} (h : MapIs D L) (id : ByteArray) {f : J → J} (hf : ∀ j, (f j).id = j.id) (hb : ∀ j, (f j).blk = j.blk) : MapIs D (turn L id f) := by
  refine ⟨h.isMap, fun s => by rw [hasL_turn hf]; exact h.has s, fun i hi => ?_⟩
  unfold Ytkejopmohnfpgaa.turn at hi
  obtain ⟨j, hj, e⟩ := List.mem_map.1 hi
  have := h.at_ j hj
  split at e
  · rw [← e, hf, hb]; exact this
  · rw [← e]; exact this
theorem Apart.turn {L : List J} (h : Apart L) (id : ByteArray) {f : J → J} (hf : ∀ j, (f j).id = j.id) (hb : ∀ j, (f j).blk = j.blk) : Apart (turn L id f) := by
  unfold Apart Ytkejopmohnfpgaa.turn at *
  rw [List.pairwise_map]
  refine h.imp fun {a b} hab => ?_
  repeat' split
  all_goals first | exact hab | (simp only [hf, hb]; exact hab)
theorem Apart.filter {L : List J} (h : Apart L) (p : J → Bool) : Apart (L.filter p) := List.Pairwise.filter p h
theorem Apart.push {L : List J} (h : Apart L) {j : J} (hn : hasL L j.id = false) (hb : ∀ i ∈ L, i.blk ≠ j.blk) : Apart (L ++ [j]) := by
  unfold Apart at *
  rw [List.pairwise_append]
  refine ⟨h, List.pairwise_singleton _ _, fun a ha b hb' => ?_⟩
  simp at hb'
  subst hb'
  exact ⟨hasL_false hn a ha, hb a ha⟩
theorem Apart.uniq {L : List J} (h : Apart L) {a b : J} (ha : a ∈ L) (hb : b ∈ L) (e : a.id = b.id) : a = b := by
  unfold Apart at h
  induction L with
  | nil => cases ha
  | cons x t ih =>
    obtain ⟨h1, h2⟩ := List.pairwise_cons.1 h
    rcases List.mem_cons.1 ha with rfl | ha'
    · rcases List.mem_cons.1 hb with rfl | hb'
      · rfl
      · exact absurd e (h1 b hb').1
    · rcases List.mem_cons.1 hb with rfl | hb'
      · exact absurd e.symm (h1 a ha').1
      · exact ih h2 ha' hb'
theorem Apart.blk {L : List J} (h : Apart L) {a b : J} (ha : a ∈ L) (hb : b ∈ L) (e : a.id ≠ b.id) : a.blk ≠ b.blk := by
  unfold Apart at h
  induction L with
  | nil => cases ha
  | cons x t ih =>
    obtain ⟨h1, h2⟩ := List.pairwise_cons.1 h
    rcases List.mem_cons.1 ha with rfl | ha'
    · rcases List.mem_cons.1 hb with rfl | hb'
      · exact absurd rfl e
      · exact (h1 b hb').2
    · rcases List.mem_cons.1 hb with rfl | hb'
      · exact fun h' => (h1 a ha').2 h'.symm
      · exact ih h2 ha' hb'

/-- THE QUEUE IN MEMORY. qT, jT: the types of the queue's and a job's struct. -/
structure IsQ (qT jT : TypeId) (P : Program) (B : Nat) (w : World) (qb mb : Nat) (lv : Value) (s : QS) : Prop where
  most : s.most ≤ 64
  blk : w.heap[qb]? = some (.cells #[.int .i64 s.most, lv, .map (some mb), .int .i64 s.pushed, .bool s.closed] qT (0, 0))
  line : w.ownsRow B 9 1 lv (lineL s.L).length ((lineL s.L).map Value.string)
  map : ∃ D, w.ownsMap P 9 ptrElem mb s.pushed D ∧ MapIs D s.L
  jobs : ∀ j ∈ s.L, w.heap[j.blk]? = some (.cells #[j.x, .int .i64 j.num, .bool j.taken, .bool j.marked] jT (0, 0)) ∧ j.x.oneCell' = true ∧ B ≤ j.blk
  apart : Apart s.L
  ids : ∀ j ∈ s.L, j.id.size ≤ maxLen
  few : s.pushed ≤ 1000000
  lines : (lineL s.L).length ≤ s.pushed
  base : B ≤ qb ∧ B ≤ mb ∧ B ≤ w.heap.size
theorem IsQ.kept {qT jT : TypeId} {P : Program} {B : Nat} {w w' : World} {qb mb : Nat} {lv : Value} {s : QS} (h : IsQ qT jT P B w qb mb lv s)
    (hk : ∀ k, B ≤ k → k < w.heap.size → w'.heap[k]? = w.heap[k]?) (hz : w.heap.size ≤ w'.heap.size) : IsQ qT jT P B w' qb mb lv s := by
  have lt {k : Nat} {o : Obj} (e : w.heap[k]? = some o) : k < w.heap.size := (Array.getElem?_eq_some_iff.1 e).1
  refine ⟨h.most, (hk qb h.base.1 (lt h.blk)).trans h.blk, ?_, ?_, fun j hj => ?_, h.apart, h.ids, h.few, h.lines, h.base.1, h.base.2.1, Nat.le_trans h.base.2.2 hz⟩
  · obtain ⟨h1, h2⟩ := h.line
    refine ⟨h1, ?_⟩
    rcases h2 with h2 | ⟨g, cap, cur, hv, hg, hh, r⟩
    · exact .inl h2
    · exact .inr ⟨g, cap, cur, hv, hg, (hk g hg (lt hh)).trans hh, r⟩
  · obtain ⟨D, ⟨es, clock, hb, r⟩, hD⟩ := h.map
    exact ⟨D, ⟨es, clock, (hk mb h.base.2.1 (lt hb)).trans hb, r⟩, hD⟩
  · obtain ⟨h1, h2, h3⟩ := h.jobs j hj
    exact ⟨(hk j.blk h3 (lt h1)).trans h1, h2, h3⟩
theorem IsQ.drewN {qT jT : TypeId} {P : Program} {B : Nat} {w : World} {qb mb : Nat} {lv : Value} {s : QS} (h : IsQ qT jT P B w qb mb lv s) (n : Nat) : IsQ qT jT P B (w.drewN n) qb mb lv s := by
  have e : (w.drewN n).heap = w.heap := by
    induction n with
    | zero => rfl
    | succ n ih => exact ih
  exact h.kept (fun k _ _ => by rw [e]) (by rw [e]; exact Nat.le_refl _)
theorem IsQ.below {qT jT : TypeId} {P : Program} {B : Nat} {w w' : World} {qb mb : Nat} {lv : Value} {s : QS} (h : IsQ qT jT P B w qb mb lv s) (hb : Below w.heap.size w w') : IsQ qT jT P B w' qb mb lv s :=
  h.kept (fun k _ hk => hb.block k hk) hb.size
theorem IsQ.cells {qT jT : TypeId} {P : Program} {B : Nat} {w : World} {qb mb : Nat} {lv : Value} {s : QS} (h : IsQ qT jT P B w qb mb lv s) :
    w.cell? ⟨qb, 0, none⟩ = some (.int .i64 s.most) ∧ w.cell? ⟨qb, 1, none⟩ = some lv ∧ w.cell? ⟨qb, 2, none⟩ = some (.map (some mb)) ∧ w.cell? ⟨qb, 3, none⟩ = some (.int .i64 s.pushed) ∧ w.cell? ⟨qb, 4, none⟩ = some (.bool s.closed) := by
  have e (i : Nat) := cell_of_row w qb i _ _ _ h.blk
  refine ⟨by rw [e]; rfl, by rw [e]; rfl, by rw [e]; rfl, by rw [e]; rfl, by rw [e]; rfl⟩
theorem IsQ.free {qT jT : TypeId} {P : Program} {B : Nat} {w : World} {qb mb : Nat} {lv : Value} {s : QS} (h : IsQ qT jT P B w qb mb lv s) (i : Nat) : w.frozen? ⟨qb, i, none⟩ = false := by
  simp [World.frozen?, h.blk]
end Go.Proofs.Ytkejopmohnfpgaa
