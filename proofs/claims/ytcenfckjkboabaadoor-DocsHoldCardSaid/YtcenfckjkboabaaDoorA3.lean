/- Acts among the arguments. -/
import Derived.Test.YtcenfckjkboabaaDoorA2
namespace Go.Proofs.Dc
open Go.RowKit Go.Maps Go.Proofs Go.Lib Go.ChangeShapes Go.WideShapes Go.Deep

section
variable {H : Type} {enc : TypeId × Value → H} {w : World} {base : Nat} {spare : Nat → Bool} {held : Bool}
set_option maxRecDepth 100000 in
theorem act_trod {fuel : Nat} {cs : List Value} {x : DataW H × List MemPlace} (h : DataW.trod enc Tryd.prog w base spare held fuel 29 cs = some x) :
    ∃ y : Act, cs[0]? = some (.int .i64 y.todo) ∧ cs[1]? = some (.string y.uri) ∧ cs[2]? = some (.string y.text) ∧ cs[3]? = some (.int .i64 y.times) ∧ cs[4]? = some (.int .i64 y.ver) ∧ cs[5]? = some (.slice y.lp y.ln y.lc) ∧ cs[6]? = some (.int .u8 y.fill) ∧
      ChgsAt w y.lp y.l ∧ y.ln = y.l.length ∧ y.ln ≤ maxLen ∧ y.uri.size ≤ maxLen ∧ y.text.size ≤ maxLen ∧ 0 ≤ y.fill ∧ y.fill ≤ 255 := by
  obtain ⟨xs, m, _, _, hlen, hl, hf⟩ := DataW.trod_struct Tryd.underlying29 h
  match xs, hl with
  | [y0, y1, y2, y3, y4, y5, y6], _ =>
    have h0 := hf 0 _ rfl
    have h1 := hf 1 _ rfl
    have h2 := hf 2 _ rfl
    have h3 := hf 3 _ rfl
    have h4 := hf 4 _ rfl
    have h5 := hf 5 _ rfl
    have h6 := hf 6 _ rfl
    simp [cn3] at h0
    simp [cn9] at h1
    simp [cn9] at h2
    simp [cn3] at h3
    simp [cn2] at h4
    simp [cn26] at h5
    simp [cn5] at h6
    obtain ⟨a0, e0, _⟩ := DataW.trod_int (k := .i64) Tryd.underlying3 h0
    obtain ⟨a1, e1, _, s1⟩ := DataW.trod_string Tryd.underlying9 h1
    obtain ⟨a2, e2, _, s2⟩ := DataW.trod_string Tryd.underlying9 h2
    obtain ⟨a3, e3, _⟩ := DataW.trod_int (k := .i64) Tryd.underlying3 h3
    obtain ⟨a4, e4, _⟩ := DataW.trod_int (k := .i64) Tryd.underlying2 h4
    obtain ⟨p, n, c, e5, hn, l, hl2, _, hI⟩ := changes_trod h5
    obtain ⟨a6, e6, _, z6⟩ := DataW.trod_int (k := .u8) Tryd.underlying5 h6
    have hb : 0 ≤ a6 ∧ a6 ≤ 255 := by simpa [Lit.wf, IntKind.min, IntKind.max, IntKind.signed, IntKind.bits] using z6
    exact ⟨⟨a0, a1, a2, a3, a4, p, n, c, l, a6⟩, one_cell (i := 0) (by simpa using e0), one_cell (i := 1) (by simpa using e1), one_cell (i := 2) (by simpa using e2), one_cell (i := 3) (by simpa using e3), one_cell (i := 4) (by simpa using e4), one_cell (i := 5) (by simpa using e5), one_cell (i := 6) (by simpa using e6), hI, hl2, hn, s1, s2, hb.1, hb.2⟩
theorem act_at {a : Addr} {i : Nat} {cs : List Value} (hc : w.cells? base (a.add (i * 7)) 7 = some cs) {fuel : Nat} {x : DataW H × List MemPlace} (h : DataW.trod enc Tryd.prog w base spare held fuel 29 cs = some x) : ∃ y, ActAt w (a.add (i * 7)) y := by
  obtain ⟨y, e0, e1, e2, e3, e4, e5, e6, r1, r2, r3, r4, r5, r6, r7⟩ := act_trod h
  obtain ⟨_, hcl, hat⟩ := World.cells?_some hc
  have hx : ∀ (j : Nat) (v : Value), 0 < j → j < 7 → cs[j]? = some v → w.cell? ⟨(a.add (i * 7)).block, (a.add (i * 7)).off + j, none⟩ = some v := fun j v hj0 hj hv => by
    rw [← add_at a (i * 7) j hj0, ← Go.Deep.add_add, hat j hj]
    exact hv
  have h0 : w.cell? (a.add (i * 7)) = some (.int .i64 y.todo) := by
    have := hat 0 (by omega)
    rw [show (a.add (i * 7)).add 0 = a.add (i * 7) by simp [Addr.add]] at this
    exact this.trans e0
  exact ⟨y, h0, hx 1 _ (by omega) (by omega) e1, hx 2 _ (by omega) (by omega) e2, hx 3 _ (by omega) (by omega) e3, hx 4 _ (by omega) (by omega) e4, hx 5 _ (by omega) (by omega) e5, hx 6 _ (by omega) (by omega) e6, r1, r2, r3, r4, r5, r6, r7, World.block_lt_of_cell? w _ h0⟩
set_option maxRecDepth 100000 in
theorem acts_arg {v : Value} {d : DataW H} {ps : List MemPlace} (hv : Value.okWide Tryd.prog w .any base 30 v) (h : DataW.Trod enc Tryd.prog w 0 (fun _ => true) true 30 v d ps) :
    ∃ (p : Option Addr) (n c : Nat), v = .slice p n c ∧ n ≤ maxLen ∧ ∃ l : List Act, n = l.length ∧ ActsAt w p l := by
  obtain ⟨a0, len, cap, rfl⟩ := okWide_slice Tryd.underlying30 hv
  obtain ⟨fuel, hf⟩ := h
  rcases open_slice Tryd.underlying30 hf with ⟨hcs, _⟩ | ⟨a, len', cap', m, n, D, Pl, hcs, _, hl, hm, hz, _, hcell⟩
  · simp [Value.cells] at hcs
    obtain ⟨rfl, rfl, rfl⟩ := hcs
    exact ⟨_, _, _, rfl, Nat.zero_le _, [], rfl, fun i x hx => by simp at hx⟩
  · simp [Value.cells] at hcs
    obtain ⟨rfl, rfl, rfl⟩ := hcs
    have hlm : len ≤ m := by rw [hz]; split <;> omega
    obtain ⟨l, hll, hp⟩ := list_of len (fun i y => ActAt w (a.add (i * 7)) y) fun i hi => by
      obtain ⟨cs', hc, ht⟩ := hcell i (by omega)
      rw [cn29] at hc
      exact act_at hc ht
    exact ⟨_, _, _, rfl, Nat.le_trans hl hm, l, hll.symm, fun i x hx => ⟨a, rfl, hp i x hx⟩⟩
end
end Go.Proofs.Dc
