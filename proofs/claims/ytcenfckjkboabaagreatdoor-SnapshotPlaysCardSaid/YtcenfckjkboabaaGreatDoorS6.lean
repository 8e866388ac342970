/- What next makes of a Snapshots' memory. -/
import Derived.Test.YtcenfckjkboabaaGreatDoorS5
namespace Go.Proofs.Dc
open Go.RowKit Go.Proofs Go.Lib Go.Maps

/-- the map of generations alone -/
structure MV (w : World) (m : Nat) (K : Nat → Bool) (N : Nat) (B : Nat → Nat) (D : DataW Unit) : Prop where
  mp : w.ownsMap Tryz.prog 3 ptrEl m N D
  siz : Maps.size D = N
  has : ∀ i : Int, Maps.has D (.int .i64 i) = (decide (0 ≤ i) && K i.toNat)
  key : ∀ n, K n = true → ∀ z, D.atKey (.int .i64 (n : Int)) z = .lit (.int .i64 (B n : Int))
theorem SK.mv {w : World} {s m lo : Nat} {K : Nat → Bool} {now : Nat} {G : List Gen} {N : Nat} {B : Nat → Nat} {D : DataW Unit} (h : SK w s m lo K now G N B D) : MV w m K N B D := ⟨h.mp, h.siz, h.has, fun n hn => (h.el n hn).1⟩
theorem MV.kept {w w' : World} {m : Nat} {K : Nat → Bool} {N : Nat} {B : Nat → Nat} {D : DataW Unit} (h : MV w m K N B D) {row : Option Nat} (hg : w.grownBy w' row) (hne : some m ≠ row) : MV w' m K N B D := ⟨h.mp.kept hg hne, h.siz, h.has, h.key⟩
theorem MV.del {w : World} {m : Nat} {K : Nat → Bool} {N : Nat} {B : Nat → Nat} {D : DataW Unit} (h : MV w m K N B D) {n : Nat} (hn : K n = true) (hi : wfI (n : Int)) :
    ∃ w' D', (∀ ty, (Builtin.delete_ #[70, 3] ty #[.map (some m), .int .i64 (n : Int)]).run Tryz.prog w = .ok (.tuple #[]) w') ∧ MV w' m (fun i => K i && i != n) (N - 1) B D' ∧ w.grownBy w' (some m) := by
  have hd := fun ty => h.mp.drop law3 Tryz.underlying70 (keyOf_int_mk Tryz.underlying3 hi) ty
  obtain ⟨w', h1, h2, ht⟩ := hd 0
  have hg := World.mapTurned.grown ht
  have hsz := size_del (D := D) (k := .int .i64 (n : Int)) (h.mp.tidy law3)
  have hh : Maps.has D (.int .i64 (n : Int)) = true := by rw [h.has]; simp [hn]
  rw [hh, if_pos rfl, h.siz] at hsz
  have hs2 : Maps.size (D.del (.int .i64 (n : Int))) = N - 1 := by omega
  refine ⟨w', D.del (.int .i64 (n : Int)), fun ty => h1, ⟨by rw [← hs2]; exact ownM_tight h2, hs2, fun i => ?_, fun n' hn' z => ?_⟩, hg⟩
  · by_cases e : i = (n : Int)
    · subst e
      rw [has_del_same]
      simp
    · rw [has_del_other (by intro e2; exact e (by cases e2; rfl)), h.has]
      by_cases h0 : 0 ≤ i
      · have : i.toNat ≠ n := by omega
        simp [h0, this]
      · simp [h0]
  · simp at hn'
    rw [atKey_del_other (by intro e2; cases e2; exact hn'.2 rfl)]
    exact h.key n' hn'.1 z
theorem MV.put {w : World} {m : Nat} {K : Nat → Bool} {N : Nat} {B : Nat → Nat} {D : DataW Unit} (h : MV w m K N B D) {n b : Nat} (hn : K n = false) (hi : wfI (n : Int)) (hN : N < maxLen) :
    ∃ w' D', (Instr.mapUpdate 70 (.map (some m)) (.int .i64 (n : Int)) (.pointer (some ⟨b, 0, none⟩))).run Tryz.prog w = .ok () w' ∧ MV w' m (fun i => K i || i == n) (N + 1) (fun i => if i = n then b else B i) D' ∧ w.grownBy w' (some m) := by
  obtain ⟨w', h1, h2, ht⟩ := h.mp.store law3 Tryz.underlying70 hN (keyOf_int_mk Tryz.underlying3 hi) (show ptrEl (.pointer (some ⟨b, 0, none⟩)) = some (.lit (.int .i64 (b : Int)), []) from rfl)
  have hg := World.mapTurned.grown ht
  have hh : Maps.has D (.int .i64 (n : Int)) = false := by rw [h.has]; simp [hn]
  have hs2 := size_put (D := D) (k := .int .i64 (n : Int)) (h.mp.tidy law3) (.lit (.int .i64 (b : Int)))
  rw [hh, if_neg (by decide), h.siz] at hs2
  refine ⟨w', _, h1, ⟨h2, hs2, fun i => ?_, fun n' hn' z => ?_⟩, hg⟩
  · by_cases e : i = (n : Int)
    · subst e
      rw [has_put_same (h.mp.tidy law3).isMap (by exact trivial)]
      simp
    · rw [has_put_other (by intro e2; exact e (by cases e2; rfl)), h.has]
      by_cases h0 : 0 ≤ i
      · have : i.toNat ≠ n := by omega
        simp [h0, this]
      · simp [h0]
  · simp only [Bool.or_eq_true, beq_iff_eq] at hn'
    by_cases e : n' = n
    · subst e
      rw [if_pos rfl, atKey_put_same (h.mp.tidy law3).isMap (by exact trivial)]
    · rw [if_neg e, atKey_put_other (by intro e2; cases e2; exact e rfl)]
      exact h.key n' (by rcases hn' with hn' | hn'; exact hn'; exact absurd hn' e) z
/-- what a URI's act adds -/
def addG (G : List Gen) (L : List Doc) (u : List UInt8) : List Gen := G ++ [⟨L, 0, u⟩]
/-- who is kept before the new one comes in -/
def keptB (G : List Gen) (z : Bool) (i : Nat) : Bool := if z then kept G i && i != G.length - 1 else kept G i
theorem kept_ge {G : List Gen} {i : Nat} (h : G.length ≤ i) : kept G i = false := by
  unfold kept
  rw [List.getElem?_eq_none h]
theorem kept_add {G : List Gen} {g : Gen} (hg : G[G.length - 1]? = some g) (L : List Doc) (u : List UInt8) (i : Nat) : kept (addG G L u) i = (keptB G (decide (g.held = 0)) i || i == G.length) := by
  have hgl := (List.getElem?_eq_some_iff.1 hg).1
  have hlen : (addG G L u).length = G.length + 1 := by simp [addG]
  by_cases h1 : i = G.length
  · subst h1
    have : (addG G L u)[G.length]? = some ⟨L, 0, u⟩ := by simp [addG]
    unfold kept
    rw [this, hlen]
    simp
  · by_cases h2 : i < G.length
    · have he : (addG G L u)[i]? = G[i]? := by unfold addG; rw [List.getElem?_append_left h2]
      obtain ⟨gi, hgi⟩ : ∃ gi, G[i]? = some gi := ⟨_, List.getElem?_eq_getElem h2⟩
      have hk : kept G i = decide (i + 1 = G.length ∨ 0 < gi.held) := by unfold kept; rw [hgi]
      have hk2 : kept (addG G L u) i = decide (0 < gi.held) := by
        unfold kept
        rw [he, hgi, hlen]
        simp
        omega
      rw [hk2]
      have h3 : (i == G.length) = false := beq_eq_false_iff_ne.2 h1
      rw [h3, Bool.or_false]
      unfold keptB
      by_cases h4 : i = G.length - 1
      · subst h4
        have : gi = g := Option.some.inj (hgi.symm.trans hg)
        subst this
        by_cases h5 : gi.held = 0
        · simp [h5]
        · rw [if_neg (by simpa using h5), hk]
          simp
          omega
      · have h5 : ¬ i + 1 = G.length := by omega
        have h6 : (i != G.length - 1) = true := by simpa using h4
        rw [hk, h6, Bool.and_true, ite_self]
        simp [h5]
    · have hz : kept (addG G L u) i = false := kept_ge (by omega)
      rw [hz]
      have h3 : (i == G.length) = false := beq_eq_false_iff_ne.2 h1
      rw [h3, Bool.or_false]
      unfold keptB
      rw [kept_ge (by omega)]
      simp
theorem came_add {G : List Gen} (L : List Doc) (u x : List UInt8) (hG : G ≠ []) : cameOf (addG G L u) G.length x = if u = x then G.length else cameOf G (G.length - 1) x := by
  have hl : 0 < G.length := List.length_pos_iff.2 hG
  unfold cameOf addG
  rw [show G.length - 1 + 1 = G.length by omega, List.take_length, List.take_of_length_le (by simp), List.map_append, List.reverse_append]
  show (if u = x then ((G.map (·.uri)).reverse).length else cameR ((G.map (·.uri)).reverse) x) = _
  simp
theorem came_old {G : List Gen} (L : List Doc) (u : List UInt8) {n : Nat} (hn : n < G.length) (x : List UInt8) : cameOf (addG G L u) n x = cameOf G n x := by
  unfold cameOf addG
  rw [List.take_append_of_le_length (by omega)]
theorem cnt_add {G : List Gen} {g : Gen} (hg : G[G.length - 1]? = some g) (L : List Doc) (u : List UInt8) : cnt (kept (addG G L u)) (addG G L u).length = cnt (kept G) G.length - (if g.held = 0 then 1 else 0) + 1 := by
  have hgl := (List.getElem?_eq_some_iff.1 hg).1
  have hne : G ≠ [] := fun e => by rw [e] at hgl; simp at hgl
  have hlen : (addG G L u).length = G.length + 1 := by simp [addG]
  have hk := kept_add hg L u
  rw [hlen, cnt_succ, hk G.length]
  simp only [BEq.rfl, Bool.or_true, if_pos]
  rw [cnt_eq (K' := keptB G (decide (g.held = 0))) (fun i hi => by rw [hk i, show (i == G.length) = false from beq_eq_false_iff_ne.2 (by omega), Bool.or_false])]
  congr 1
  by_cases h0 : g.held = 0
  · rw [if_pos h0, cnt_eq (K' := fun i => kept G i && i != G.length - 1) (fun i _ => by unfold keptB; rw [if_pos (by simpa using h0)])]
    have := cnt_less (kept_last hne) (N := G.length) (by omega)
    omega
  · rw [if_neg h0, cnt_eq (K' := kept G) (fun i _ => by unfold keptB; rw [if_neg (by simpa using h0)])]
    rfl
/-- put together behind the act -/
theorem SK.build {w w2 : World} {s m lo : Nat} {G : List Gen} {N : Nat} {B : Nat → Nat} {D : DataW Unit} (_hne : G ≠ []) (h : SK w s m lo (kept G) (G.length - 1) G N B D) {g : Gen} (hg : G[G.length - 1]? = some g)
    (hfr : ∀ k, k < w.heap.size → k ≠ s → k ≠ m → w2.heap[k]? = w.heap[k]?) (hs : w2.heap[s]? = some (.cells #[.map (some m), .int .i64 (G.length : Int)] 72 (0, 0))) {b : Nat} (hb : w.heap.size ≤ b) {L : List Doc} {u : List UInt8} {D2 : DataW Unit}
    (hm : MV w2 m (fun i => keptB G (decide (g.held = 0)) i || i == G.length) (cnt (kept (addG G L u)) (addG G L u).length) (fun i => if i = G.length then b else B i) D2) (hgen : Nonempty (GenAt w2 (addG G L u) G.length b m)) :
    SV w2 s m lo (addG G L u) := by
  have hka := kept_add hg L u
  have hsub : ∀ i, keptB G (decide (g.held = 0)) i = true → kept G i = true := fun i hi => by
    unfold keptB at hi
    split at hi
    · simp at hi; exact hi.1
    · exact hi
  have hlt : ∀ i, kept G i = true → i < G.length ∧ B i < w.heap.size := fun i hi => by
    obtain ⟨_, _, ⟨ge⟩⟩ := h.el i hi
    exact ⟨(List.getElem?_eq_some_iff.1 ge.at_).1, (Array.getElem?_eq_some_iff.1 ge.hd).1⟩
  refine ⟨by simp [addG], fun i => if i = G.length then b else B i, D2, ⟨?_, h.slo, h.mlo, hm.mp, hm.siz, fun i => by rw [hm.has]; congr 1; exact (hka _).symm, fun i j hi hj hij => ?_, fun n hn => ?_⟩⟩
  · rw [hs]
    simp [addG]
  · rw [hka] at hi hj
    simp only [Bool.or_eq_true, beq_iff_eq] at hi hj
    by_cases ei : i = G.length <;> by_cases ej : j = G.length
    · rw [ei, ej]
    · rw [if_pos ei, if_neg ej] at hij
      have := (hlt j (hsub j (by rcases hj with hj | hj; exact hj; exact absurd hj ej))).2
      omega
    · rw [if_neg ei, if_pos ej] at hij
      have := (hlt i (hsub i (by rcases hi with hi | hi; exact hi; exact absurd hi ei))).2
      omega
    · rw [if_neg ei, if_neg ej] at hij
      exact h.inj i j (hsub i (by rcases hi with hi | hi; exact hi; exact absurd hi ei)) (hsub j (by rcases hj with hj | hj; exact hj; exact absurd hj ej)) hij
  · rw [hka] at hn
    have hk := hm.key n hn
    simp only [Bool.or_eq_true, beq_iff_eq] at hn
    refine ⟨hk, ?_⟩
    by_cases e : n = G.length
    · subst e
      rw [if_pos rfl]
      have := h.lt
      have := h.slo
      exact ⟨by omega, hgen⟩
    · rw [if_neg e]
      have hkn := hsub n (by rcases hn with hn | hn; exact hn; exact absurd hn e)
      obtain ⟨_, hl, ⟨ge⟩⟩ := h.el n hkn
      have hnl := (hlt n hkn).1
      have hbk : ∀ k, k < w.heap.size → k ≠ s → k ≠ m → w2.heap[k]? = w.heap[k]? := hfr
      have hbb : w2.heap[B n]? = w.heap[B n]? := hfr _ (hlt n hkn).2 (ne_types ge.hd h.hd (by decide)) (fun e => ne_map h.mp ge.hd e.symm)
      have hd : w2.heap[ge.d]? = w.heap[ge.d]? := hfr _ ge.dv.lt.1 (ne_types ge.dv.hd h.hd (by decide)) (fun e => ne_map h.mp ge.dv.hd e.symm)
      have hM : w2.heap[ge.M]? = w.heap[ge.M]? := hfr _ ge.dv.lt.2 (ne_map ge.dv.mp h.hd) ge.Mm
      have hC : w2.heap[ge.C]? = w.heap[ge.C]? := hfr _ ge.cm.lt (by obtain ⟨D, k1, _⟩ := ge.cm; exact ne_map k1 h.hd) ge.Cm
      refine ⟨hl, ⟨⟨ge.g, ge.d, ge.M, ge.C, ?_, hbb.trans ge.hd, ⟨hd.trans ge.dv.hd, ?_⟩, ?_, ge.Mm, ge.Cm⟩⟩⟩
      · unfold addG
        rw [List.getElem?_append_left hnl]
        exact ge.at_
      · obtain ⟨es, clock, k1, k2⟩ := ge.dv.mp
        exact ⟨es, clock, hM.trans k1, k2⟩
      · rw [funext (came_old L u hnl)]
        obtain ⟨D3, ⟨es, clock, k1, k2⟩, k3⟩ := ge.cm
        exact ⟨D3, ⟨es, clock, hC.trans k1, k2⟩, k3⟩
end Go.Proofs.Dc
