/- What is kept of memory where something else turned. -/
import Derived.Test.YtkejopmohnfpgaaParts
namespace Go.Proofs.Ytkejopmohnfpgaa
open Go.RowKit Go.Maps

def OfT (t : TypeId) (o : Obj) : Prop := ∃ c, o = .cells c t (0, 0)
def OfMap (o : Obj) : Prop := ∃ es c, o = .map es c
def Keeps (w w' : World) (p : Obj → Prop) : Prop := ∀ (k : Nat) (o : Obj), w.heap[k]? = some o → p o → w'.heap[k]? = some o
theorem Keeps.refl (w : World) (p : Obj → Prop) : Keeps w w p := fun _ _ h _ => h
theorem Keeps.trans {w w' w'' : World} {p : Obj → Prop} (h : Keeps w w' p) (k : Keeps w' w'' p) : Keeps w w'' p := fun b o e ho => k b o (h b o e ho) ho
theorem Keeps.setCell {w0 w : World} {p : Obj → Prop} (h : Keeps w0 w p) {b i : Nat} {c : Array Value} {t : TypeId} {z : Nat × Nat} (he : w.heap[b]? = some (.cells c t z)) (hp : ¬ p (.cells c t z)) (v : Value) : Keeps w0 (w.setCell ⟨b, i, none⟩ v) p := by
  intro k o e ho
  have e1 := h k o e ho
  rw [heap_setCell_other _ _ _ _ ?_]; exact e1
  intro hk
  rw [hk] at e1
  change w.heap[b]? = _ at e1
  rw [he] at e1
  exact hp (Option.some.inj e1 ▸ ho)
theorem Keeps.alloc {w0 w : World} {p : Obj → Prop} (h : Keeps w0 w p) (x : Obj) : Keeps w0 (w.alloc x) p := by
  intro k o e ho
  have e1 := h k o e ho
  have hlt : k < w.heap.size := (Array.getElem?_eq_some_iff.1 e1).1
  show (w.heap.push x)[k]? = _
  rw [Array.getElem?_push_lt hlt]
  rw [Array.getElem?_eq_getElem hlt] at e1
  exact e1
theorem Keeps.drew {w0 w : World} {p : Obj → Prop} (h : Keeps w0 w p) : Keeps w0 w.drew p := h
theorem Keeps.drewN {w0 w : World} {p : Obj → Prop} (h : Keeps w0 w p) (n : Nat) : Keeps w0 (w.drewN n) p := by
  have e : (w.drewN n).heap = w.heap := by
    induction n with
    | zero => rfl
    | succ n ih => exact ih
  intro k o e1 ho
  rw [e]; exact h k o e1 ho
theorem Keeps.below {w0 w w' : World} {p : Obj → Prop} (h : Keeps w0 w p) (hb : Below w.heap.size w w') : Keeps w0 w' p := by
  intro k o e ho
  have e1 := h k o e ho
  rw [hb.block k (Array.getElem?_eq_some_iff.1 e1).1]; exact e1
theorem Keeps.turned {w0 w w' : World} {p : Obj → Prop} (h : Keeps w0 w p) {b : Nat} (ht : w.mapTurned w' b) (hp : ∀ es c, ¬ p (.map es c)) : Keeps w0 w' p := by
  obtain ⟨es, clock, es', clock', he, rfl⟩ := ht
  intro k o e ho
  have e1 := h k o e ho
  by_cases hk : k = b
  · subst hk
    rw [he] at e1
    exact absurd ho (Option.some.inj e1 ▸ hp es clock)
  · show (w.heap.setIfInBounds b _)[k]? = _
    rw [Array.getElem?_setIfInBounds_ne (Ne.symm hk)]; exact e1
theorem Keeps.grown {w0 w w' : World} {p : Obj → Prop} (h : Keeps w0 w p) {v : Value} {B n : Nat} {xs : List Value} (ho : w.ownsRow B 9 1 v n xs) (hg : w.grownBy w' v.ownBlock) (hp : ∀ c, ¬ p (.cells c 9 (0, 0))) : Keeps w0 w' p := by
  intro k o e hpo
  have e1 := h k o e hpo
  have hlt : k < w.heap.size := (Array.getElem?_eq_some_iff.1 e1).1
  have hne : v.ownBlock ≠ some k := by
    intro hk
    rcases ho.2 with ⟨h1, _⟩ | ⟨g, cap, cur, h1, _, h3, _⟩
    · rw [h1] at hk; cases hk
    · rw [h1] at hk
      cases hk
      rw [h3] at e1
      exact hp cur (Option.some.inj e1 ▸ hpo)
  rw [hg.block k hlt (fun h => hne h.symm)]; exact e1
theorem line_keeps {w w' : World} {B n : Nat} {v : Value} {xs : List Value} (h : w.ownsRow B 9 1 v n xs) (hk : Keeps w w' (OfT 9)) : w'.ownsRow B 9 1 v n xs := by
  obtain ⟨h1, h2⟩ := h
  refine ⟨h1, ?_⟩
  rcases h2 with h2 | ⟨g, cap, cur, hv, hg, hh, r⟩
  · exact .inl h2
  · exact .inr ⟨g, cap, cur, hv, hg, hk g _ hh ⟨_, rfl⟩, r⟩
theorem map_keeps {w w' : World} {P : Program} {b n : Nat} {D : DataW Unit} (h : w.ownsMap P 9 ptrElem b n D) (hk : Keeps w w' OfMap) : w'.ownsMap P 9 ptrElem b n D := by
  obtain ⟨es, clock, hb, r⟩ := h
  exact ⟨es, clock, hk _ _ hb ⟨_, _, rfl⟩, r⟩
theorem cells_keeps {w w' : World} {b : Nat} {c : Array Value} {t : TypeId} (h : w.heap[b]? = some (.cells c t (0, 0))) (hk : Keeps w w' (OfT t)) : w'.heap[b]? = some (.cells c t (0, 0)) := hk _ _ h ⟨_, rfl⟩
theorem cells_set {w : World} {b i : Nat} {c : Array Value} {t : TypeId} {z : Nat × Nat} (h : w.heap[b]? = some (.cells c t z)) (v : Value) : (w.setCell ⟨b, i, none⟩ v).heap[b]? = some (.cells (c.setIfInBounds i v) t z) := by
  simp [World.setCell, Array.getElem?_modify, h]
theorem line_shape {w : World} {B e n : Nat} {v : Value} {xs : List Value} (h : w.ownsRow B e 1 v n xs) : ∃ p cap, v = .slice p n cap := by
  rcases h.2 with ⟨h1, h2⟩ | ⟨g, cap, cur, h1, _⟩
  · subst h2; exact ⟨_, _, h1⟩
  · exact ⟨_, _, h1⟩
theorem ofT_ne {t u : TypeId} (h : t ≠ u) (c : Array Value) : ¬ OfT t (.cells c u (0, 0)) := by
  rintro ⟨d, e⟩
  cases e; exact h rfl
theorem ofT_map (t : TypeId) (es c) : ¬ OfT t (.map es c) := by rintro ⟨d, e⟩; cases e
theorem ofMap_cells (c : Array Value) (t : TypeId) (z : Nat × Nat) : ¬ OfMap (.cells c t z) := by rintro ⟨d, e, h⟩; cases h
/-- a store into a map, at the operation itself (for a drawn region) -/
theorem wp_mapUpdate_in {P : Program} {w : World} {o : Oper} {a : Act} {KK : Act → World → Prop} {Q : Exit → Act → World → Prop} (m x v : Operand) (t : TypeId) (hop : o.op = Op.mapUpdate t m x v)
    (k e : TypeId) (K : Keyed P k) (ht : P.underlying t = some (.map k e)) (R : Value → Option (DataW Unit × List MemPlace)) (b n : Nat) (D : DataW Unit)
    (hm : a.eval m = .map (some b)) (hown : w.ownsMap P k R b n D) (hn : n < maxLen) (key val : Value) (kl : Lit) (hx : a.eval x = key) (hv : a.eval v = val) (hkey : keyOf P k key = some kl)
    (d : DataW Unit) (ps : List MemPlace) (hval : R val = some (d, ps))
    (hK : ∀ w', w'.ownsMap P k R b (n + 1) (D.put kl d) → w.mapTurned w' b → KK (a.put o.dst undef) w') :
    o.wp P a w KK Q := by
  obtain ⟨w', hrun, r1, r2⟩ := hown.store K ht hn hkey hval
  unfold Oper.wp
  simp [execOp, hop, hm, hx, hv, hrun, Result.andThen]
  exact hK w' r1 r2
def NoMap (o : Obj) : Prop := ¬ OfMap o
theorem noMap_map (es c) : ¬ NoMap (.map es c) := fun h => h ⟨_, _, rfl⟩
theorem Keeps.imp {w w' : World} {p q : Obj → Prop} (h : Keeps w w' p) (hq : ∀ o, q o → p o) : Keeps w w' q := fun k o e ho => h k o e (hq o ho)
theorem ofT_noMap {t : TypeId} (o : Obj) (h : OfT t o) : NoMap o := by
  obtain ⟨c, rfl⟩ := h
  rintro ⟨_, _, h⟩; cases h
/-- a struct's own block, at a world that keeps its kind -/
theorem qcell {w : World} {qb : Nat} {c : Array Value} {t : TypeId} (h : w.heap[qb]? = some (.cells c t (0, 0))) {w' : World} (hk : Keeps w w' (OfT t)) (i : Nat) {v : Value} (hi : c[i]? = some v) : w'.cell? ⟨qb, i, none⟩ = some v := by
  rw [cell_of_row w' qb i _ _ _ (cells_keeps h hk)]; exact hi
theorem qfree {w : World} {qb : Nat} {c : Array Value} {t : TypeId} (h : w.heap[qb]? = some (.cells c t (0, 0))) {w' : World} (hk : Keeps w w' (OfT t)) (i : Nat) : w'.frozen? ⟨qb, i, none⟩ = false := by
  simp [World.frozen?, cells_keeps h hk]
theorem drewN_heap (w : World) (n : Nat) : (w.drewN n).heap = w.heap := by
  induction n with
  | zero => rfl
  | succ n ih => exact ih
theorem below_drewN (B : Nat) (w : World) (n : Nat) : Below B w (w.drewN n) := by
  induction n with
  | zero => exact Below.refl _ _
  | succ n ih => exact ih.drew
theorem below_turned {B b : Nat} {a w w' : World} (h : Below B a w) (ht : w.mapTurned w' b) (hb : B ≤ b) : Below B a w' := by
  obtain ⟨es, clock, es', clock', he, rfl⟩ := ht
  refine h.trans ⟨rfl, rfl, rfl, by simp [ChangeMaps.setBlock], fun k hk => ?_⟩
  show (w.heap.setIfInBounds b _)[k]? = _
  rw [Array.getElem?_setIfInBounds_ne (by omega)]
theorem below_grown {B n : Nat} {a w w' : World} {v : Value} {xs : List Value} (h : Below B a w) (ho : w.ownsRow B 9 1 v n xs) (hg : w.grownBy w' v.ownBlock) (hB : B ≤ w.heap.size) : Below B a w' :=
  h.grown hg hB (fun k hk => (ho.lt k hk).1)
theorem lineL_push {L : List J} {j : J} (h : j.taken = false) : lineL (L ++ [j]) = lineL L ++ [j.id] := by
  simp [lineL, List.filter_append, h]
theorem lineL_turn {L : List J} {id : ByteArray} {f : J → J} (hf : ∀ j, (f j).id = j.id) (ht : ∀ j, (f j).taken = j.taken) : lineL (turn L id f) = lineL L := by
  induction L with
  | nil => rfl
  | cons x t ih =>
    have e1 : (if x.id = id then f x else x).taken = x.taken := by split <;> simp [ht]
    have e2 : (if x.id = id then f x else x).id = x.id := by split <;> simp [hf]
    have ih' : lineL (t.map fun j => if j.id = id then f j else j) = lineL t := ih
    unfold lineL at ih'
    simp only [lineL, turn, List.map_cons, List.filter_cons, e1]
    split <;> simp [e2, ih']
theorem turn_none {L : List J} {id : ByteArray} {f : J → J} (h : ∀ j ∈ L, j.id ≠ id) : turn L id f = L := by
  induction L with
  | nil => rfl
  | cons x t ih =>
    have e := ih (fun j hj => h j (List.mem_cons_of_mem _ hj))
    unfold turn at *
    rw [List.map_cons, e, if_neg (h x (List.mem_cons_self ..))]
theorem lineL_take {L : List J} (ha : Apart L) {id : ByteArray} {rest : List ByteArray} (h : lineL L = id :: rest) : lineL (turn L id fun j => { j with taken := true }) = rest := by
  induction L with
  | nil => cases h
  | cons x t ih =>
    have ha' : Apart t := by unfold Apart at *; exact (List.pairwise_cons.1 ha).2
    have hx : ∀ b ∈ t, x.id ≠ b.id := fun b hb => by unfold Apart at ha; exact ((List.pairwise_cons.1 ha).1 b hb).1
    cases ht : x.taken with
    | true =>
      have h' : lineL t = id :: rest := by simpa [lineL, ht] using h
      have := ih ha' h'
      have e : (if x.id = id then { x with taken := true } else x).taken = true := by split <;> simp [ht]
      simp only [lineL, turn, List.map_cons, List.filter_cons, e] at this ⊢
      simpa using this
    | false =>
      have h' : x.id :: lineL t = id :: rest := by simpa [lineL, ht] using h
      obtain ⟨rfl, h2⟩ := List.cons.inj h'
      have e := turn_none (L := t) (f := fun j => { j with taken := true }) (fun j hj => fun e => hx j hj e.symm)
      unfold turn at e
      simp only [lineL, turn, List.map_cons, if_true, List.filter_cons]
      rw [e]
      simpa [lineL] using h2
theorem lineL_drop {L : List J} {id : ByteArray} (h : ∀ j ∈ L, j.id = id → j.taken = true) : lineL (L.filter fun j => decide (j.id ≠ id)) = lineL L := by
  unfold lineL
  rw [List.filter_filter]
  congr 1
  refine List.filter_congr fun j hj => ?_
  by_cases e : j.id = id
  · simp [h j hj e]
  · simp [e]
theorem lineL_mem {L : List J} {id : ByteArray} {rest : List ByteArray} (h : lineL L = id :: rest) : ∃ j ∈ L, j.id = id ∧ j.taken = false := by
  have : id ∈ lineL L := by rw [h]; exact List.mem_cons_self ..
  unfold lineL at this
  obtain ⟨j, hj, e⟩ := List.mem_map.1 this
  obtain ⟨h1, h2⟩ := List.mem_filter.1 hj
  exact ⟨j, h1, e, by simpa using h2⟩

section
variable {qT jT : TypeId} {P : Program} {B : Nat} {w w' : World} {qb mb : Nat} {lv : Value} {s : QS}
theorem IsQ.push (h : IsQ qT jT P B w qb mb lv s) {lv' : Value} {id : ByteArray} {x : Value} {b : Nat} {D : DataW Unit} (hid : id.size ≤ maxLen) (hn : hasL s.L id = false) (hf : s.pushed < 1000000) (hx : x.oneCell' = true)
    (h1 : w'.heap[qb]? = some (.cells #[.int .i64 s.most, lv', .map (some mb), .int .i64 ((s.pushed + 1 : Nat) : Int), .bool s.closed] qT (0, 0)))
    (h2 : w'.ownsRow B 9 1 lv' ((lineL s.L).length + 1) ((lineL s.L).map Value.string ++ [.string id])) (hD : MapIs D s.L)
    (h3 : w'.ownsMap P 9 ptrElem mb (s.pushed + 1) (D.put (key id) (.lit (.int .i64 b)))) (h4 : Keeps w w' (OfT jT))
    (h5 : w'.heap[b]? = some (.cells #[x, .int .i64 ((s.pushed + 1 : Nat) : Int), .bool false, .bool false] jT (0, 0))) (hb : w.heap.size ≤ b) (hz : B ≤ w'.heap.size) :
    IsQ qT jT P B w' qb mb lv' { s with L := s.L ++ [⟨id, x, s.pushed + 1, false, false, b⟩], pushed := s.pushed + 1 } := by
  have hl := lineL_push (L := s.L) (j := ⟨id, x, s.pushed + 1, false, false, b⟩) rfl
  have hBb : B ≤ b := Nat.le_trans h.base.2.2 hb
  refine ⟨h.most, h1, ?_, ⟨_, h3, hD.push (j := ⟨id, x, s.pushed + 1, false, false, b⟩) hn⟩, fun j hj => ?_, ?_, fun j hj => ?_, ?_, ?_, h.base.1, h.base.2.1, hz⟩
  · show w'.ownsRow B 9 1 lv' (lineL (s.L ++ _)).length ((lineL (s.L ++ _)).map Value.string)
    rw [hl]
    simpa using h2
  · rcases List.mem_append.1 hj with hj | hj
    · obtain ⟨g1, g2, g3⟩ := h.jobs j hj
      exact ⟨cells_keeps g1 h4, g2, g3⟩
    · simp at hj
      subst hj
      exact ⟨h5, hx, hBb⟩
  · refine h.apart.push hn (fun i hi => ?_)
    have := (Array.getElem?_eq_some_iff.1 (h.jobs i hi).1).1
    show i.blk ≠ b
    omega
  · rcases List.mem_append.1 hj with hj | hj
    · exact h.ids j hj
    · simp at hj
      subst hj
      exact hid
  · show s.pushed + 1 ≤ 1000000
    omega
  · show (lineL (s.L ++ _)).length ≤ s.pushed + 1
    rw [hl]
    have := h.lines
    simp; omega
/-- one job turned in memory -/
theorem IsQ.turned (h : IsQ qT jT P B w qb mb lv s) {lv' : Value} {id : ByteArray} {f : J → J} {j : J} (hj : j ∈ s.L) (he : j.id = id)
    (hf : ∀ j, (f j).id = j.id) (hb : ∀ j, (f j).blk = j.blk) (hx : ∀ j, (f j).x = j.x)
    (h1 : w'.heap[qb]? = some (.cells #[.int .i64 s.most, lv', .map (some mb), .int .i64 s.pushed, .bool s.closed] qT (0, 0)))
    (h2 : w'.ownsRow B 9 1 lv' (lineL (turn s.L id f)).length ((lineL (turn s.L id f)).map Value.string)) (hl : (lineL (turn s.L id f)).length ≤ (lineL s.L).length)
    (h3 : Keeps w w' OfMap) (h4 : ∀ i ∈ s.L, i.id ≠ id → w'.heap[i.blk]? = w.heap[i.blk]?)
    (h5 : w'.heap[j.blk]? = some (.cells #[j.x, .int .i64 (f j).num, .bool (f j).taken, .bool (f j).marked] jT (0, 0))) (hz : B ≤ w'.heap.size) :
    IsQ qT jT P B w' qb mb lv' { s with L := turn s.L id f } := by
  obtain ⟨D, hown, hD⟩ := h.map
  refine ⟨h.most, h1, h2, ⟨D, map_keeps hown h3, hD.turn id hf hb⟩, fun i hi => ?_, h.apart.turn id hf hb, fun i hi => ?_, h.few, Nat.le_trans hl h.lines, h.base.1, h.base.2.1, hz⟩
  · obtain ⟨k, hk, e⟩ := List.mem_map.1 (show i ∈ s.L.map _ from hi)
    obtain ⟨g1, g2, g3⟩ := h.jobs k hk
    by_cases hki : k.id = id
    · rw [if_pos hki] at e
      have hjk : k = j := h.apart.uniq hk hj (hki.trans he.symm)
      subst hjk
      subst e
      refine ⟨by rw [hb, hx]; exact h5, by rw [hx]; exact g2, by rw [hb]; exact g3⟩
    · rw [if_neg hki] at e
      subst e
      exact ⟨(h4 k hk hki).trans g1, g2, g3⟩
  · obtain ⟨k, hk, e⟩ := List.mem_map.1 (show i ∈ s.L.map _ from hi)
    split at e
    · rw [← e, hf]; exact h.ids k hk
    · rw [← e]; exact h.ids k hk
theorem IsQ.dropped (h : IsQ qT jT P B w qb mb lv s) {id : ByteArray} (ht : ∀ j ∈ s.L, j.id = id → j.taken = true) (hk : Keeps w w' NoMap)
    {D : DataW Unit} (hD : MapIs D s.L) (h3 : w'.ownsMap P 9 ptrElem mb s.pushed (D.del (key id))) (hz : B ≤ w'.heap.size) :
    IsQ qT jT P B w' qb mb lv { s with L := s.L.filter fun j => decide (j.id ≠ id) } := by
  have hl := lineL_drop ht
  refine ⟨h.most, cells_keeps h.blk (hk.imp ofT_noMap), ?_, ⟨_, h3, hD.drop id⟩, fun i hi => ?_, h.apart.filter _, fun i hi => h.ids i (List.mem_filter.1 hi).1, h.few, ?_, h.base.1, h.base.2.1, hz⟩
  · show w'.ownsRow B 9 1 lv (lineL (List.filter _ s.L)).length ((lineL (List.filter _ s.L)).map Value.string)
    rw [hl]
    exact line_keeps h.line (hk.imp ofT_noMap)
  · obtain ⟨g1, g2, g3⟩ := h.jobs i (List.mem_filter.1 hi).1
    exact ⟨cells_keeps g1 (hk.imp ofT_noMap), g2, g3⟩
  · show (lineL (List.filter _ s.L)).length ≤ s.pushed
    rw [hl]; exact h.lines
theorem IsQ.shut (h : IsQ qT jT P B w qb mb lv s) (hq : qT ≠ 9) (hqj : qT ≠ jT) : IsQ qT jT P B (w.setCell ⟨qb, 4, none⟩ (.bool true)) qb mb lv { s with closed := true } := by
  have k1 := (Keeps.refl w (OfT 9)).setCell h.blk (i := 4) (ofT_ne hq.symm _) (.bool true)
  have k2 := (Keeps.refl w (OfT jT)).setCell h.blk (i := 4) (ofT_ne hqj.symm _) (.bool true)
  have k3 := (Keeps.refl w OfMap).setCell h.blk (i := 4) (ofMap_cells _ _ _) (.bool true)
  obtain ⟨D, hown, hD⟩ := h.map
  refine ⟨h.most, cells_set h.blk _, line_keeps h.line k1, ⟨D, map_keeps hown k3, hD⟩, fun j hj => ?_, h.apart, h.ids, h.few, h.lines, h.base.1, h.base.2.1, by rw [World.size_setCell]; exact h.base.2.2⟩
  obtain ⟨g1, g2, g3⟩ := h.jobs j hj
  exact ⟨cells_keeps g1 k2, g2, g3⟩
end
end Go.Proofs.Ytkejopmohnfpgaa
