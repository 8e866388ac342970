/- Changes of a Snapshots' memory. -/
import Derived.Test.YtcenfckjkboabaaGreatDoorS2
namespace Go.Proofs.Dc
open Go.RowKit Go.Proofs Go.Lib Go.Maps

theorem grown_set {w : World} {r j : Nat} {t : TypeId} {c : Array Value} (u : Value) (h : w.heap[r]? = some (.cells c t (0, 0))) : w.grownBy (w.setCell ⟨r, j, none⟩ u) (some r) := by
  rw [setCell_eq_setRow w r j c t (0, 0) u h]
  exact ⟨rfl, rfl, rfl, by simp, fun k _ hk => setRow_other w r k _ (fun e => hk (by rw [e]))⟩
theorem set_row {w : World} {r j : Nat} {t : TypeId} {c : Array Value} (u : Value) (h : w.heap[r]? = some (.cells c t (0, 0))) : (w.setCell ⟨r, j, none⟩ u).heap[r]? = some (.cells (c.setIfInBounds j u) t (0, 0)) := by
  rw [setCell_eq_setRow w r j c t (0, 0) u h, setRow_heap w r c _ t (0, 0) h]
theorem ne_types {w : World} {a b : Nat} {c c' : Array Value} {t t' : TypeId} {f f' : Nat × Nat} (h1 : w.heap[a]? = some (.cells c t f)) (h2 : w.heap[b]? = some (.cells c' t' f')) (ht : t ≠ t') : a ≠ b := by
  rintro rfl
  have := h1.symm.trans h2
  simp at this
  exact ht this.2.1
theorem ne_map {w : World} {a b N : Nat} {c : Array Value} {t k : TypeId} {f : Nat × Nat} {R : Value → Option (DataW Unit × List MemPlace)} {D : DataW Unit} (h1 : w.ownsMap Tryz.prog k R a N D) (h2 : w.heap[b]? = some (.cells c t f)) : a ≠ b := by
  rintro rfl
  exact own_notCells h1 h2
/-- a generation stays, whatever is done to a block of another kind -/
def GenAt.keep {w w' : World} {G : List Gen} {n b m : Nat} (h : GenAt w G n b m) {r : Nat} (hg : w.grownBy w' (some r)) {c : Array Value} {t : TypeId} {f : Nat × Nat} (hr : w.heap[r]? = some (.cells c t f)) (ht : t ≠ 83) (hb : b ≠ r) : GenAt w' G n b m :=
  h.kept hg (fun e => hb (Option.some.inj e)) (fun e => ne_types h.dv.hd hr ht.symm (Option.some.inj e)) (fun e => by
    obtain ⟨es, clock, h1, _⟩ := h.dv.mp
    rw [Option.some.inj e, hr] at h1
    cases h1) (fun e => by
    obtain ⟨D, h1, _⟩ := h.cm
    have := Option.some.inj e
    subst this
    exact own_notCells h1 hr)
def GenAt.keepM {w w' : World} {G : List Gen} {n b m : Nat} (h : GenAt w G n b m) (hg : w.grownBy w' (some m)) {k : TypeId} {R : Value → Option (DataW Unit × List MemPlace)} {N : Nat} {D : DataW Unit} (hm : w.ownsMap Tryz.prog k R m N D) : GenAt w' G n b m :=
  h.kept hg (fun e => by have := Option.some.inj e; subst this; exact own_notCells hm h.hd) (fun e => by have k := h.dv.hd; rw [Option.some.inj e] at k; exact own_notCells hm k) (fun e => h.Mm (Option.some.inj e)) (fun e => h.Cm (Option.some.inj e))
/-- seen in another list, the same so far -/
def GenAt.inList {w : World} {G G' : List Gen} {n b m : Nat} (h : GenAt w G n b m) (h1 : G'[n]? = G[n]?) (h2 : ∀ u, cameOf G' n u = cameOf G n u) : GenAt w G' n b m :=
  ⟨h.g, h.d, h.M, h.C, h1.trans h.at_, h.hd, h.dv, by rw [funext h2]; exact h.cm, h.Mm, h.Cm⟩
section
variable {w : World} {s m lo : Nat} {K : Nat → Bool} {now : Nat} {G : List Gen} {N : Nat} {B : Nat → Nat} {D : DataW Unit} (h : SK w s m lo K now G N B D)
include h
theorem SK.setNow (x : Nat) : SK (w.setCell ⟨s, 1, none⟩ (.int .i64 (x : Int))) s m lo K x G N B D ∧ w.grownBy (w.setCell ⟨s, 1, none⟩ (.int .i64 (x : Int))) (some s) := by
  have hg := grown_set (j := 1) (.int .i64 (x : Int)) h.hd
  refine ⟨⟨set_row _ h.hd, h.slo, h.mlo, h.mp.kept hg (fun e => h.sm (Option.some.inj e).symm), h.siz, h.has, h.inj, fun n hn => ?_⟩, hg⟩
  obtain ⟨h1, h2, ⟨g⟩⟩ := h.el n hn
  exact ⟨h1, h2, ⟨g.keep hg h.hd (by decide) (ne_types g.hd h.hd (by decide))⟩⟩
theorem SK.setHeld {n : Nat} (hn : K n = true) {g : Gen} (hG : G[n]? = some g) (x : Nat) : SK (w.setCell ⟨B n, 2, none⟩ (.int .i64 (x : Int))) s m lo K now (G.set n { g with held := x }) N B D ∧ w.grownBy (w.setCell ⟨B n, 2, none⟩ (.int .i64 (x : Int))) (some (B n)) := by
  obtain ⟨_, hl, ⟨gn⟩⟩ := h.el n hn
  have hg := grown_set (j := 2) (.int .i64 (x : Int)) gn.hd
  have hgg : gn.g = g := Option.some.inj (gn.at_.symm.trans hG)
  have hcame : ∀ n' u, cameOf (G.set n { g with held := x }) n' u = cameOf G n' u := fun n' u => by
    unfold cameOf
    have : (G.set n { g with held := x }).map (·.uri) = G.map (·.uri) := by
      rw [List.map_set]
      have e : (G.map (·.uri))[n]? = some g.uri := by simp [hG]
      obtain ⟨hl, he⟩ := List.getElem?_eq_some_iff.1 e
      rw [← he]
      exact List.set_getElem_self hl
    rw [List.map_take, List.map_take, this]
  refine ⟨⟨(hg.block s h.lt.1 (fun e => ne_types h.hd gn.hd (by decide) (Option.some.inj e))).trans h.hd, h.slo, h.mlo, h.mp.kept hg (fun e => ne_map h.mp gn.hd (Option.some.inj e)), h.siz, h.has, h.inj, fun n' hn' => ?_⟩, hg⟩
  obtain ⟨h1, h2, ⟨g'⟩⟩ := h.el n' hn'
  refine ⟨h1, h2, ?_⟩
  by_cases e : n' = n
  · subst e
    have hd := set_row (j := 2) (.int .i64 (x : Int)) g'.hd
    have hgg' : g'.g = g := Option.some.inj (g'.at_.symm.trans hG)
    refine ⟨⟨{ g with held := x }, g'.d, g'.M, g'.C, ?_, hd, ?_, ?_, g'.Mm, g'.Cm⟩⟩
    · rw [List.getElem?_set_self (List.getElem?_eq_some_iff.1 hG).1]
    · show DV _ g'.d g'.M g.docs
      rw [← hgg']
      exact g'.dv.kept hg (fun e => ne_types g'.dv.hd g'.hd (by decide) (Option.some.inj e)) (fun e => by
        obtain ⟨es, clock, k1, _⟩ := g'.dv.mp
        rw [Option.some.inj e, g'.hd] at k1
        cases k1)
    · rw [funext (hcame n')]
      show CameAt _ g'.C g.docs _
      rw [← hgg']
      exact g'.cm.kept hg (fun e => by
        obtain ⟨D, k1, _⟩ := g'.cm
        exact ne_map k1 g'.hd (Option.some.inj e))
  · exact ⟨(g'.keep hg gn.hd (by decide) (fun e2 => e (h.inj _ _ hn' hn e2))).inList (by rw [List.getElem?_set_ne (fun e2 => e e2.symm)]) (hcame n')⟩
theorem SK.del {n : Nat} (hn : K n = true) (hi : wfI (n : Int)) :
    ∃ w' D', (∀ ty, (Builtin.delete_ #[70, 3] ty #[.map (some m), .int .i64 (n : Int)]).run Tryz.prog w = .ok (.tuple #[]) w') ∧ SK w' s m lo (fun i => K i && i != n) now G (N - 1) B D' ∧ w.grownBy w' (some m) := by
  have hd := fun ty => h.mp.drop law3 Tryz.underlying70 (keyOf_int_mk Tryz.underlying3 hi) ty
  obtain ⟨w', h1, h2, ht⟩ := hd 0
  have hg := World.mapTurned.grown ht
  have hsz := size_del (D := D) (k := .int .i64 (n : Int)) (h.mp.tidy law3)
  have hh : Maps.has D (.int .i64 (n : Int)) = true := by rw [h.has]; simp [hn]
  rw [hh, if_pos rfl, h.siz] at hsz
  have hs2 : Maps.size (D.del (.int .i64 (n : Int))) = N - 1 := by omega
  refine ⟨w', D.del (.int .i64 (n : Int)), fun ty => h1, ⟨(hg.block s h.lt.1 (fun e => h.sm (Option.some.inj e))).trans h.hd, h.slo, h.mlo, by rw [← hs2]; exact ownM_tight h2, hs2, fun i => ?_, fun i j hi hj => h.inj i j (by simp at hi; exact hi.1) (by simp at hj; exact hj.1), fun n' hn' => ?_⟩, hg⟩
  · by_cases e : i = (n : Int)
    · subst e
      rw [has_del_same]
      simp
    · rw [has_del_other (by intro e2; exact e (by cases e2; rfl)), h.has]
      by_cases h0 : 0 ≤ i
      · have : i.toNat ≠ n := by omega
        simp [h0, this]
      · simp [h0]
  · simp at hn'
    obtain ⟨k1, k2, ⟨g⟩⟩ := h.el n' hn'.1
    exact ⟨fun z => by rw [atKey_del_other (by intro e2; cases e2; exact hn'.2 rfl)]; exact k1 z, k2, ⟨g.keepM hg h.mp⟩⟩
theorem SK.put {n b : Nat} (hn : K n = false) (hi : wfI (n : Int)) {g : Gen} (hGn : n = G.length) (hlo : lo ≤ b) (hN : N < maxLen) (hb : ∀ i, K i = true → B i ≠ b) (hgen : Nonempty (GenAt w (G ++ [g]) n b m)) :
    ∃ w' D', (Instr.mapUpdate 70 (.map (some m)) (.int .i64 (n : Int)) (.pointer (some ⟨b, 0, none⟩))).run Tryz.prog w = .ok () w' ∧ SK w' s m lo (fun i => K i || i == n) now (G ++ [g]) (N + 1) (fun i => if i = n then b else B i) D' ∧ w.grownBy w' (some m) := by
  obtain ⟨w', h1, h2, ht⟩ := h.mp.store law3 Tryz.underlying70 hN (keyOf_int_mk Tryz.underlying3 hi) (show ptrEl (.pointer (some ⟨b, 0, none⟩)) = some (.lit (.int .i64 (b : Int)), []) from rfl)
  have hg := World.mapTurned.grown ht
  have hh : Maps.has D (.int .i64 (n : Int)) = false := by rw [h.has]; simp [hn]
  have hs2 := size_put (D := D) (k := .int .i64 (n : Int)) (h.mp.tidy law3) (.lit (.int .i64 (b : Int)))
  rw [hh, if_neg (by decide), h.siz] at hs2
  have hK : ∀ i, K i = true → i ≠ n := fun i hi e => by rw [e, hn] at hi; cases hi
  refine ⟨w', _, h1, ⟨(hg.block s h.lt.1 (fun e => h.sm (Option.some.inj e))).trans h.hd, h.slo, h.mlo, h2, hs2, fun i => ?_, fun i j hi hj hij => ?_, fun n' hn' => ?_⟩, hg⟩
  · by_cases e : i = (n : Int)
    · subst e
      rw [has_put_same (h.mp.tidy law3).isMap (by exact trivial)]
      simp
    · rw [has_put_other (by intro e2; exact e (by cases e2; rfl)), h.has]
      by_cases h0 : 0 ≤ i
      · have : i.toNat ≠ n := by omega
        simp [h0, this]
      · simp [h0]
  · simp only [Bool.or_eq_true, beq_iff_eq] at hi hj
    by_cases ei : i = n <;> by_cases ej : j = n
    · rw [ei, ej]
    · rw [if_pos ei, if_neg ej] at hij
      exact absurd hij.symm (hb j (by rcases hj with hj | hj; exact hj; exact absurd hj ej))
    · rw [if_neg ei, if_pos ej] at hij
      exact absurd hij (hb i (by rcases hi with hi | hi; exact hi; exact absurd hi ei))
    · rw [if_neg ei, if_neg ej] at hij
      exact h.inj i j (by rcases hi with hi | hi; exact hi; exact absurd hi ei) (by rcases hj with hj | hj; exact hj; exact absurd hj ej) hij
  · simp only [Bool.or_eq_true, beq_iff_eq] at hn'
    by_cases e : n' = n
    · subst e
      rw [if_pos rfl]
      obtain ⟨g'⟩ := hgen
      exact ⟨fun z => by rw [atKey_put_same (h.mp.tidy law3).isMap (by exact trivial)], hlo, ⟨g'.keepM hg h.mp⟩⟩
    · rw [if_neg e]
      obtain ⟨k1, k2, ⟨g'⟩⟩ := h.el n' (by rcases hn' with hn' | hn'; exact hn'; exact absurd hn' e)
      have hlt : n' < G.length := (List.getElem?_eq_some_iff.1 g'.at_).1
      refine ⟨fun z => by rw [atKey_put_other (by intro e2; cases e2; exact e rfl)]; exact k1 z, k2, ⟨(g'.keepM hg h.mp).inList (by rw [List.getElem?_append_left hlt]) (fun u => ?_)⟩⟩
      unfold cameOf
      rw [List.take_append_of_le_length (by omega)]
end
end Go.Proofs.Dc
