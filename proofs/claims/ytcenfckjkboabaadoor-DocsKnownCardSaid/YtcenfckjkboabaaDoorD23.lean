/- The laws' round: what its middle knows; All's answer as cells. -/
import Derived.Test.YtcenfckjkboabaaDoorD22
import Derived.Test.YtcenfckjkboabaaDoorA2
namespace Go.Proofs.Dc
open Go.RowKit Go.Proofs Go.Lib Go.Maps Go.Shelf

/-- a document's own block -/
structure Keep (w wr : World) (b M g : Nat) (L : List Doc) (U T : ByteArray) (V : Int) : Prop where
  dv : DV wr b M L
  bel : Below w.heap.size w wr
  box : wr.heap[g]? = some (.cells #[.string U, .string T, .int .i64 V] 38 (0, 0))
  ne : g ≠ M
  lo : w.heap.size ≤ M
theorem Keep.grown {w wr w' : World} {b M g : Nat} {L L' : List Doc} {U T : ByteArray} {V : Int} (h : Keep w wr b M g L U T V) (hg : wr.grownBy w' (some M)) (hd : DV w' b M L') : Keep w w' b M g L' U T V :=
  ⟨hd, h.bel.trans (below_gb h.lo h.bel.size hg), (hg.block g (Array.getElem?_eq_some_iff.1 h.box).1 (by intro e; exact h.ne (Option.some.inj e))).trans h.box, h.ne, h.lo⟩
theorem Keep.below {w wr w' : World} {b M g : Nat} {L : List Doc} {U T : ByteArray} {V : Int} (h : Keep w wr b M g L U T V) (hb : Below wr.heap.size wr w') : Keep w w' b M g L U T V :=
  ⟨h.dv.below hb, h.bel.trans (hb.mono h.bel.size), (hb.block g (Array.getElem?_eq_some_iff.1 h.box).1).trans h.box, h.ne, h.lo⟩
theorem Keep.cells {w wr : World} {b M g : Nat} {L : List Doc} {U T : ByteArray} {V : Int} (h : Keep w wr b M g L U T V) :
    wr.cell? ⟨g, 0, none⟩ = some (.string U) ∧ wr.cell? ⟨g, 1, none⟩ = some (.string T) ∧ wr.cell? ⟨g, 2, none⟩ = some (.int .i64 V) := by
  have := h.box
  refine ⟨?_, ?_, ?_⟩ <;> simp [World.cell?, this]
/-- a document among cells -/
structure DocA (w : World) (p : Addr) (d : Doc) : Prop where
  c0 : w.cell? p = some (.string ⟨d.uri.toArray⟩)
  c1 : w.cell? ⟨p.block, p.off + 1, none⟩ = some (.string ⟨d.text.toArray⟩)
  c2 : w.cell? ⟨p.block, p.off + 2, none⟩ = some (.int .i64 d.ver)
theorem DocA.below {w w' : World} {p : Addr} {d : Doc} (h : DocA w p d) (hb : Below w.heap.size w w') : DocA w' p d := by
  have hl := World.block_lt_of_cell? w _ h.c0
  exact ⟨(hb.cell hl).trans h.c0, (hb.cell (by exact hl)).trans h.c1, (hb.cell (by exact hl)).trans h.c2⟩
/-- All's answer -/
theorem row_docs {w : World} {B : Nat} {v : Value} {L : List Doc} (h : w.ownsRow B 38 3 v L.length (docCells L)) :
    ∃ (p : Option Addr) (cap : Nat), v = .slice p L.length cap ∧ L.length ≤ cap ∧ (∀ a, p = some a → B ≤ a.block ∧ a.block < w.heap.size) ∧ ∀ q d, L[q]? = some d → ∃ a, p = some a ∧ DocA w (a.add (q * 3)) d := by
  rcases h.2 with ⟨rfl, h2⟩ | ⟨g, cap, cur, rfl, h2, h3, h4, h5, h6, h7⟩
  · have : L = [] := List.length_eq_zero_iff.1 h2
    subst this
    exact ⟨none, 0, rfl, Nat.le_refl _, (fun a ha => by cases ha), fun q d hd => by simp at hd⟩
  · refine ⟨_, _, rfl, h4, (fun a ha => by obtain rfl := Option.some.inj ha; exact ⟨h2, (Array.getElem?_eq_some_iff.1 h3).1⟩), fun q d hd => ⟨_, rfl, ?_⟩⟩
    have hq := (List.getElem?_eq_some_iff.1 hd).1
    have e : (⟨g, 0, none⟩ : Addr).add (q * 3) = ⟨g, q * 3, none⟩ := by unfold Addr.add; split <;> simp_all
    have hc : ∀ f, f < 3 → w.cell? ⟨g, q * 3 + f, none⟩ = (docCell d)[f]? := fun f hf => by
      simp only [World.cell?, h3]
      rw [← Array.getElem?_toList, ← List.getElem?_take_of_lt (show q * 3 + f < L.length * 3 by omega), h7, docCells_at hd f hf]
      rfl
    rw [e]
    exact ⟨hc 0 (by omega), hc 1 (by omega), hc 2 (by omega)⟩
theorem dir_size {u : List UInt8} (h : (dirV u).isSome = true) : u.length ≤ 100 := by
  obtain ⟨d, hd⟩ := Option.isSome_iff_exists.1 h
  obtain ⟨b, rfl, h1, _, h3⟩ := dirV_isDir hd
  unfold nameB at h1 h3
  rw [Bool.and_eq_true, decide_eq_true_eq] at h1 h3
  have := h1.1.2.2
  have := h3.1.2.2
  simp [ahead, dotgo]
  omega
theorem size_arr (l : List UInt8) : (⟨l.toArray⟩ : ByteArray).size = l.length := by simp [ByteArray.size]
end Go.Proofs.Dc
