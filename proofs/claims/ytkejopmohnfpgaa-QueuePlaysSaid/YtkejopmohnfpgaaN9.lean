/- A list of acts among the arguments; QueuePlays: the law's call. -/
import Derived.Test.YtkejopmohnfpgaaN8
import Derived.Deep.Slices
import Derived.Deep.Fields
import Derived.ChangeSame
import Derived.OpenShut
import Derived.SizedLaws
namespace Go.Proofs.Ytkejopmohnfpgaa
open Go.RowKit Go.Maps Go.Proofs Go.ChangeShapes Go.WideShapes Go.Deep

section
variable {H : Type} {enc : TypeId × Value → H} {P : Program} {w : World} {base : Nat} {spare : Nat → Bool} {held : Bool}
theorem open_slice_fields {t e : TypeId} {fs : Array Field} {fuel : Nat} {cs : List Value} {x : DataW H × List MemPlace} (ht : P.underlying t = some (.slice e)) (he : P.underlying e = some (.struct fs))
    (hone : oneCellFields P fs = true) (hC : P.cellsOf e = fs.size) (h : DataW.trod enc P w base spare held fuel t cs = some x) :
    (cs = [.slice none 0 0] ∧ x = (.nil, [])) ∨
    ∃ (a : Addr) (len cap m : Nat) (D : Nat → DataW H) (Pl : Nat → List MemPlace), cs = [.slice (some a) len cap] ∧ base ≤ a.block ∧ len ≤ cap ∧ cap ≤ maxLen ∧ m = (if spare a.block then cap else len) ∧
      x = (.slice ((List.range len).map D) ((List.range (m - len)).map fun j => D (len + j)), MemPlace.row a (m * fs.size) ++ (List.range m).flatMap Pl) ∧
      ∀ i, i < m → ∃ (ys : List (DataW H × List MemPlace)) (n : Nat), D i = .agg (ys.map (·.1)) ∧ Pl i = ys.flatMap (·.2) ∧ ys.length = fs.size ∧
        ∀ (j : Nat) (f : Field), fs[j]? = some f → ∃ (v : Value) (y : DataW H × List MemPlace), w.cell? (a.add (i * fs.size + j)) = some v ∧ ys[j]? = some y ∧ DataW.trod enc P w base spare held n f.type [v] = some y := by
  rcases open_slice ht h with h0 | ⟨a, len, cap, m, n, D, Pl, hcs, hb, hl, hm, hmm, hx, hi⟩
  · exact .inl h0
  · refine .inr ⟨a, len, cap, m, D, Pl, hcs, hb, hl, hm, hmm, by rw [hC] at hx; exact hx, fun i him => ?_⟩
    obtain ⟨cs', hc, ht'⟩ := hi i him
    rw [hC] at hc
    obtain ⟨ys, n', hn', hy, hlen, hyl, hf⟩ := DataW.trod_struct he ht'
    obtain ⟨_, hcl, hat⟩ := World.cells?_some hc
    simp only [Prod.mk.injEq] at hy
    refine ⟨ys, n', hy.1, hy.2, hyl, fun j f hj => ?_⟩
    obtain ⟨ho, hk⟩ := hone_of hone j f hj
    have hjl : j < fs.size := (Array.getElem?_eq_some_iff.1 hj).1
    have hcell := hat j hjl
    have hv : cs'[j]? = some (cs'[j]'(by omega)) := List.getElem?_eq_getElem (by omega)
    have h1 := hf j f hj
    rw [ho, hk] at h1
    have hone' : (cs'.drop j).take 1 = [cs'[j]'(by omega)] := by
      rw [List.drop_eq_getElem_cons (by omega)]
      rfl
    rw [hone'] at h1
    have hys : ys[j]? = some (ys[j]'(by omega)) := List.getElem?_eq_getElem (by omega)
    refine ⟨_, _, ?_, hys, h1.trans hys⟩
    rw [← Go.Deep.add_add, hcell, hv]
end

theorem laid_outN : laidOutB Try.prog = true := by kernel_rfl
theorem laid_out : laidOutB Try.prog = true := laid_outN
theorem add_at (a : Addr) (i j : Nat) (hj : 0 < j) : a.add (i + j) = ⟨(a.add i).block, (a.add i).off + j, none⟩ := by
  unfold Addr.add
  rw [if_neg (by omega)]
  split
  · rename_i h
    subst h
    simp
  · simp; omega
set_option maxRecDepth 100000 in
theorem acts_arg {H : Type} {enc : TypeId × Value → H} {W : World} {base : Nat} {v : Value} {d : DataW H} {ps : List MemPlace} (hv : Value.okWide Try.prog W .any base 39 v) (h : DataW.Trod enc Try.prog W 0 (fun _ => true) true 39 v d ps) :
    ∃ (p : Option Addr) (n c : Nat), v = .slice p n c ∧ n ≤ maxLen ∧ ∀ i, i < n → ∃ (a : Addr) (what x : Int) (id : ByteArray), p = some a ∧ ActAt W (a.add (i * 3)) what id x ∧ (a.add (i * 3)).block < W.heap.size := by
  obtain ⟨a0, len, cap, rfl⟩ := okWide_slice Try.underlying39 hv
  obtain ⟨fuel, hf⟩ := h
  rcases open_slice_fields Try.underlying39 Try.underlying47 (by kernel_rfl) (by kernel_rfl) hf with ⟨hcs, hx⟩ | ⟨a, len', cap', m, D, Pl, hcs, _, hl, hm, hz, hx, hcell⟩
  · simp [Value.cells] at hcs
    obtain ⟨rfl, rfl, rfl⟩ := hcs
    exact ⟨_, _, _, rfl, Nat.zero_le _, fun i hi => by omega⟩
  · simp [Value.cells] at hcs
    obtain ⟨rfl, rfl, rfl⟩ := hcs
    simp only [if_true] at hz
    refine ⟨_, _, _, rfl, Nat.le_trans hl hm, fun i hi => ?_⟩
    obtain ⟨ys, n, _, _, _, hj⟩ := hcell i (by omega)
    obtain ⟨v0, y0, c0, _, t0⟩ := hj 0 _ rfl
    obtain ⟨v1, y1, c1, _, t1⟩ := hj 1 _ rfl
    obtain ⟨v2, y2, c2, _, t2⟩ := hj 2 _ rfl
    obtain ⟨n0, e0, _, _⟩ := DataW.trod_int (k := .i64) Try.underlying3 t0
    obtain ⟨n1, e1, _, z1⟩ := DataW.trod_string Try.underlying9 t1
    obtain ⟨n2, e2, _, _⟩ := DataW.trod_int (k := .i64) Try.underlying3 t2
    simp only [List.cons.injEq, and_true] at e0 e1 e2
    subst e0 e1 e2
    have hb := World.block_lt_of_cell? W _ c0
    exact ⟨a, n0, n2, n1, rfl, ⟨c0, by rw [← add_at a (i * 3) 1 (by omega)]; exact c1, by rw [← add_at a (i * 3) 2 (by omega)]; exact c2, z1⟩, hb⟩
theorem law_queuePlays (w : World) (m : Int) {pa : Option Addr} {na ca : Nat} (hna : na ≤ maxLen)
    (hI : ∀ i, i < na → ∃ (a : Addr) (what x : Int) (id : ByteArray), pa = some a ∧ ActAt w (a.add (i * 3)) what id x ∧ (a.add (i * 3)).block < w.heap.size) :
    Calls Try.prog 5 #[.int .i64 m, .slice pa na ca] w fun e w' => e = .returned (.bool true) ∧ Below w.heap.size w w' := by
  by_cases h : m < 1 ∨ 64 < m
  · exact plays_none w m h pa na ca
  · obtain ⟨n, rfl⟩ : ∃ n : Nat, m = n := ⟨m.toNat, by omega⟩
    exact plays_walk w n (by omega) (by omega) pa na ca hna hI
end Go.Proofs.Ytkejopmohnfpgaa
