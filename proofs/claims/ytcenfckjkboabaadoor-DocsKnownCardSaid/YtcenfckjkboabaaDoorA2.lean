/- Changes and acts among the arguments. -/
import Derived.Test.YtcenfckjkboabaaDoorA1
import Derived.Deep.Slices
import Derived.Deep.Fields
import Derived.ChangeSame
import Derived.OpenShut
import Derived.SizedLaws
import Derived.Carry
import Derived.Deep.DeepWitnessRowRef
namespace Go.Proofs.Dc
open Go.RowKit Go.Maps Go.Proofs Go.Lib Go.ChangeShapes Go.WideShapes Go.Deep

theorem laid_out : laidOutB Tryd.prog = true := by kernel_rfl
theorem cn3 : Tryd.prog.cellsOf 3 = 1 := by kernel_rfl
theorem cn4 : Tryd.prog.cellsOf 4 = 1 := by kernel_rfl
theorem cn9 : Tryd.prog.cellsOf 9 = 1 := by kernel_rfl
theorem cn2 : Tryd.prog.cellsOf 2 = 1 := by kernel_rfl
theorem cn5 : Tryd.prog.cellsOf 5 = 1 := by kernel_rfl
theorem cn26 : Tryd.prog.cellsOf 26 = 1 := by kernel_rfl
theorem cn29 : Tryd.prog.cellsOf 29 = 7 := by kernel_rfl
theorem cn50 : Tryd.prog.cellsOf 50 = 2 := by kernel_rfl
theorem cn52 : Tryd.prog.cellsOf 52 = 4 := by kernel_rfl
theorem cn54 : Tryd.prog.cellsOf 54 = 6 := by kernel_rfl
theorem add_at (a : Addr) (i j : Nat) (hj : 0 < j) : a.add (i + j) = ⟨(a.add i).block, (a.add i).off + j, none⟩ := by
  unfold Addr.add
  rw [if_neg (by omega)]
  split
  · rename_i h
    subst h
    simp
  · simp; omega
theorem one_cell {cs : List Value} {i : Nat} {v : Value} (h : (cs.drop i).take 1 = [v]) : cs[i]? = some v := by
  have := congrArg (·[0]?) h
  simpa [List.getElem?_take, List.getElem?_drop] using this
theorem sub_cell {cs : List Value} {o n i : Nat} {v : Value} (hi : i < n) (h : ((cs.drop o).take n)[i]? = some v) : cs[o + i]? = some v := by
  rw [List.getElem?_take, if_pos hi, List.getElem?_drop] at h
  exact h
section
variable {H : Type} {enc : TypeId × Value → H} {w : World} {base : Nat} {spare : Nat → Bool} {held : Bool}
theorem pos_trod {fuel : Nat} {cs : List Value} {x : DataW H × List MemPlace} (h : DataW.trod enc Tryd.prog w base spare held fuel 50 cs = some x) : ∃ a b : Int, cs[0]? = some (.int .i64 a) ∧ cs[1]? = some (.int .i64 b) := by
  obtain ⟨xs, m, _, _, hlen, hl, hf⟩ := DataW.trod_struct Tryd.underlying50 h
  match xs, hl with
  | [y0, y1], _ =>
    have h0 := hf 0 _ rfl
    have h1 := hf 1 _ rfl
    simp [cn3] at h0 h1
    obtain ⟨a, e0, _⟩ := DataW.trod_int (k := .i64) Tryd.underlying3 h0
    obtain ⟨b, e1, _⟩ := DataW.trod_int (k := .i64) Tryd.underlying3 h1
    exact ⟨a, b, one_cell (i := 0) (by simpa using e0), one_cell (i := 1) (by simpa using e1)⟩
theorem range_trod {fuel : Nat} {cs : List Value} {x : DataW H × List MemPlace} (h : DataW.trod enc Tryd.prog w base spare held fuel 52 cs = some x) : ∃ a b c d : Int, cs[0]? = some (.int .i64 a) ∧ cs[1]? = some (.int .i64 b) ∧ cs[2]? = some (.int .i64 c) ∧ cs[3]? = some (.int .i64 d) := by
  obtain ⟨xs, m, _, _, hlen, hl, hf⟩ := DataW.trod_struct Tryd.underlying52 h
  match xs, hl with
  | [y0, y1], _ =>
    have h0 := hf 0 _ rfl
    have h1 := hf 1 _ rfl
    simp [cn50] at h0 h1
    obtain ⟨a, b, e0, e1⟩ := pos_trod h0
    obtain ⟨c, d, e2, e3⟩ := pos_trod h1
    exact ⟨a, b, c, d, by simpa using sub_cell (o := 0) (n := 2) (i := 0) (by omega) (by simpa using e0), by simpa using sub_cell (o := 0) (n := 2) (i := 1) (by omega) (by simpa using e1), sub_cell (o := 2) (n := 2) (i := 0) (by omega) (by simpa using e2), sub_cell (o := 2) (n := 2) (i := 1) (by omega) (by simpa using e3)⟩
theorem change_trod {fuel : Nat} {cs : List Value} {x : DataW H × List MemPlace} (h : DataW.trod enc Tryd.prog w base spare held fuel 54 cs = some x) : ∃ y : Chg, cs[0]? = some (.bool y.whole) ∧ cs[1]? = some (.int .i64 y.a) ∧ cs[2]? = some (.int .i64 y.b) ∧ cs[3]? = some (.int .i64 y.c) ∧ cs[4]? = some (.int .i64 y.d) ∧ cs[5]? = some (.string y.text) ∧ y.text.size ≤ maxLen := by
  obtain ⟨xs, m, _, _, hlen, hl, hf⟩ := DataW.trod_struct Tryd.underlying54 h
  match xs, hl with
  | [y0, y1, y2], _ =>
    have h0 := hf 0 _ rfl
    have h1 := hf 1 _ rfl
    have h2 := hf 2 _ rfl
    simp [cn4] at h0
    simp [cn52] at h1
    simp [cn9] at h2
    obtain ⟨wh, e0, _⟩ := DataW.trod_bool Tryd.underlying4 h0
    obtain ⟨a, b, c, d, e1, e2, e3, e4⟩ := range_trod h1
    obtain ⟨t, e5, _, hs⟩ := DataW.trod_string Tryd.underlying9 h2
    exact ⟨⟨wh, a, b, c, d, t⟩, one_cell (i := 0) (by simpa using e0), sub_cell (o := 1) (n := 4) (i := 0) (by omega) (by simpa using e1), sub_cell (o := 1) (n := 4) (i := 1) (by omega) (by simpa using e2), sub_cell (o := 1) (n := 4) (i := 2) (by omega) (by simpa using e3), sub_cell (o := 1) (n := 4) (i := 3) (by omega) (by simpa using e4), one_cell e5, hs⟩
theorem chg_at {a : Addr} {i : Nat} {cs : List Value} (hc : w.cells? base (a.add (i * 6)) 6 = some cs) {fuel : Nat} {x : DataW H × List MemPlace} (h : DataW.trod enc Tryd.prog w base spare held fuel 54 cs = some x) : ∃ y, ChgAt w (a.add (i * 6)) y := by
  obtain ⟨y, e0, e1, e2, e3, e4, e5, hs⟩ := change_trod h
  obtain ⟨_, hcl, hat⟩ := World.cells?_some hc
  have hx : ∀ (j : Nat) (v : Value), 0 < j → j < 6 → cs[j]? = some v → w.cell? ⟨(a.add (i * 6)).block, (a.add (i * 6)).off + j, none⟩ = some v := fun j v hj0 hj hv => by
    rw [← add_at a (i * 6) j hj0, ← Go.Deep.add_add, hat j hj]
    exact hv
  have h0 : w.cell? (a.add (i * 6)) = some (.bool y.whole) := by
    have := hat 0 (by omega)
    rw [show (a.add (i * 6)).add 0 = a.add (i * 6) by simp [Addr.add]] at this
    exact this.trans e0
  exact ⟨y, h0, hx 1 _ (by omega) (by omega) e1, hx 2 _ (by omega) (by omega) e2, hx 3 _ (by omega) (by omega) e3, hx 4 _ (by omega) (by omega) e4, hx 5 _ (by omega) (by omega) e5, hs, World.block_lt_of_cell? w _ h0⟩
theorem list_of {α : Type} (n : Nat) (p : Nat → α → Prop) (h : ∀ i, i < n → ∃ y, p i y) : ∃ l : List α, l.length = n ∧ ∀ i y, l[i]? = some y → p i y := by
  induction n with
  | zero => exact ⟨[], rfl, fun i y h => by simp at h⟩
  | succ n ih =>
    obtain ⟨l, hl, hp⟩ := ih fun i hi => h i (by omega)
    obtain ⟨y, hy⟩ := h n (by omega)
    refine ⟨l ++ [y], by simp [hl], fun i z hz => ?_⟩
    by_cases hi : i < n
    · rw [List.getElem?_append_left (by omega)] at hz
      exact hp i z hz
    · have hi2 : i = n := by
        have := (List.getElem?_eq_some_iff.1 hz).1
        simp [hl] at this
        omega
      subst hi2
      rw [List.getElem?_append_right (by omega), hl, Nat.sub_self] at hz
      obtain rfl := Option.some.inj hz
      exact hy
set_option maxRecDepth 100000 in
theorem changes_trod {fuel : Nat} {cs : List Value} {x : DataW H × List MemPlace} (h : DataW.trod enc Tryd.prog w base spare held fuel 26 cs = some x) : ∃ (p : Option Addr) (n c : Nat), cs = [.slice p n c] ∧ n ≤ maxLen ∧ ∃ l : List Chg, n = l.length ∧ n ≤ c ∧ ChgsAt w p l := by
  rcases open_slice Tryd.underlying26 h with ⟨hcs, _⟩ | ⟨a, len, cap, m, n, D, Pl, hcs, _, hl, hm, hz, _, hcell⟩
  · exact ⟨_, _, _, hcs, Nat.zero_le _, [], rfl, Nat.le_refl _, fun i x hx => by simp at hx⟩
  · have hlm : len ≤ m := by rw [hz]; split <;> omega
    obtain ⟨l, hll, hp⟩ := list_of len (fun i y => ChgAt w (a.add (i * 6)) y) fun i hi => by
      obtain ⟨cs', hc, ht⟩ := hcell i (by omega)
      rw [cn54] at hc
      exact chg_at hc ht
    exact ⟨_, _, _, hcs, Nat.le_trans hl hm, l, hll.symm, hl, fun i x hx => ⟨a, rfl, hp i x hx⟩⟩
set_option maxRecDepth 100000 in
theorem changes_arg {v : Value} {d : DataW H} {ps : List MemPlace} (hv : Value.okWide Tryd.prog w .any base 26 v) (h : DataW.Trod enc Tryd.prog w 0 (fun _ => true) true 26 v d ps) :
    ∃ (p : Option Addr) (n c : Nat), v = .slice p n c ∧ n ≤ maxLen ∧ ∃ l : List Chg, n = l.length ∧ n ≤ c ∧ ChgsAt w p l := by
  obtain ⟨a0, len, cap, rfl⟩ := okWide_slice Tryd.underlying26 hv
  obtain ⟨fuel, hf⟩ := h
  obtain ⟨p, n, c, hcs, hn, l, hl, hlc, hI⟩ := changes_trod hf
  simp [Value.cells] at hcs
  obtain ⟨rfl, rfl, rfl⟩ := hcs
  exact ⟨_, _, _, rfl, hn, l, hl, hlc, hI⟩
end
end Go.Proofs.Dc
