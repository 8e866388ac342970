/- Acts on generations in memory, among the arguments; the laws' large. -/
import Derived.Test.YtcenfckjkboabaaGreatDoorS5
namespace Go.Proofs.Sn
open Go.RowKit Go.Proofs Go.Lib Go.Maps Go.Proofs.Dc

/-- an act -/
structure Act where
  todo : Int
  gn : Int
  uri : ByteArray
  text : ByteArray
  ver : Int
  lp : Option Addr
  ln : Nat
  lc : Nat
  l : List Chg
structure ActAt (w : World) (p : Addr) (x : Act) : Prop where
  c0 : w.cell? p = some (.int .i64 x.todo)
  c1 : w.cell? ⟨p.block, p.off + 1, none⟩ = some (.int .i64 x.gn)
  c2 : w.cell? ⟨p.block, p.off + 2, none⟩ = some (.string x.uri)
  c3 : w.cell? ⟨p.block, p.off + 3, none⟩ = some (.string x.text)
  c4 : w.cell? ⟨p.block, p.off + 4, none⟩ = some (.int .i64 x.ver)
  c5 : w.cell? ⟨p.block, p.off + 5, none⟩ = some (.slice x.lp x.ln x.lc)
  chgs : ChgsAt w x.lp x.l
  len : x.ln = x.l.length
  lsz : x.ln ≤ maxLen
  usz : x.uri.size ≤ maxLen
  tsz : x.text.size ≤ maxLen
  gwf : wfI x.gn
  blk : p.block < w.heap.size
theorem ActAt.below {w w' : World} {p : Addr} {x : Act} (h : ActAt w p x) (hb : Below w.heap.size w w') : ActAt w' p x :=
  ⟨(hb.cell h.blk).trans h.c0, (hb.cell (by exact h.blk)).trans h.c1, (hb.cell (by exact h.blk)).trans h.c2, (hb.cell (by exact h.blk)).trans h.c3, (hb.cell (by exact h.blk)).trans h.c4, (hb.cell (by exact h.blk)).trans h.c5, h.chgs.below hb, h.len, h.lsz, h.usz, h.tsz, h.gwf, Nat.lt_of_lt_of_le h.blk hb.size⟩
theorem act_cells {w : World} {p : Addr} {x : Act} (h : ActAt w p x) : w.cell? p = some (.int .i64 x.todo) ∧ w.cell? ⟨p.block, p.off + 1, none⟩ = some (.int .i64 x.gn) ∧ w.cell? ⟨p.block, p.off + 2, none⟩ = some (.string x.uri) ∧ w.cell? ⟨p.block, p.off + 3, none⟩ = some (.string x.text) ∧
    w.cell? ⟨p.block, p.off + 4, none⟩ = some (.int .i64 x.ver) ∧ w.cell? ⟨p.block, p.off + 5, none⟩ = some (.slice x.lp x.ln x.lc) := ⟨h.c0, h.c1, h.c2, h.c3, h.c4, h.c5⟩
def ActsAt (w : World) (p : Option Addr) (l : List Act) : Prop := ∀ i x, l[i]? = some x → ∃ a, p = some a ∧ ActAt w (a.add (i * 6)) x
theorem ActsAt.below {w w' : World} {p : Option Addr} {l : List Act} (h : ActsAt w p l) (hb : Below w.heap.size w w') : ActsAt w' p l := fun i x hx => by
  obtain ⟨a, h1, h2⟩ := h i x hx
  exact ⟨a, h1, h2.below hb⟩
def okA (a : Act) : Prop := a.uri.size ≤ 300 ∧ a.text.size ≤ 300 ∧ a.l.length ≤ 8 ∧ ∀ x ∈ a.l, x.text.size ≤ 300
/-- is there more than is looked at? -/
def Small (l : List Act) : Prop := (∀ x ∈ l, okA x) ∧ l.length ≤ 30
/-- what large answers -/
noncomputable def largeB (l : List Act) : Bool := @decide (¬ Small l) (Classical.propDecidable _)
theorem large_true {l : List Act} (h : ¬ Small l) : largeB l = true := @decide_eq_true _ (Classical.propDecidable _) h
theorem large_false {l : List Act} (h : Small l) : largeB l = false := @decide_eq_false _ (Classical.propDecidable _) fun g => g h
theorem small_of {l : List Act} (h : largeB l = false) : Small l := Classical.not_not.1 (@of_decide_eq_false _ (Classical.propDecidable _) h)
set_option maxRecDepth 100000 in
set_option maxHeartbeats 4000000 in
theorem large_any (w : World) (p : Option Addr) (n c : Nat) (l : List Act) (hn : n = l.length) (hn2 : n ≤ maxLen) (hI : ActsAt w p l) :
    Calls Tryz.prog 18 #[.slice p n c] w fun e w' => e = .returned (.bool (largeB l)) ∧ w = w' := by
  unfold maxLen at hn2
  obtain ⟨B, hB⟩ : ∃ B, largeB l = B := ⟨_, rfl⟩
  have hbt := fun h => (large_true (l := l) h).symm.trans hB
  have hbf := fun h => (large_false (l := l) h).symm.trans hB
  rw [hB]
  have BT := Lib.hid hbt
  have BF := Lib.hid hbf
  have HI := Lib.hid hI
  have HN := Lib.hid hn
  clear hI hn hbt hbf hB
  go_enter Tryz.func18, Tryz.ntmps18
  go_wp2
  go_loop [3] (fun v => ∃ k : Nat, v = .int .i64 k ∧ k ≤ n ∧ k ≤ 40 ∧ ∀ j x, j < k → l[j]? = some x → okA x) (fun v => 40 - (RowKit.intOf v).toNat)
  case atStart => exact ⟨0, rfl, Nat.zero_le _, Nat.zero_le _, fun j x h => by omega⟩
  case round =>
    obtain ⟨k, rfl, hk, hk2, hok⟩ := hrel
    have HOK := Lib.hid hok
    clear hok
    by_cases hkn : (k : Int) < (n : Int)
    · by_cases hk40 : (k : Int) < 40
      · have hkl : k < l.length := by have := HN.out; omega
        obtain ⟨x, hx⟩ : ∃ x, l[k]? = some x := ⟨_, List.getElem?_eq_getElem hkl⟩
        obtain ⟨a, rfl, hA⟩ := HI.out k x hx
        have HC := Lib.hid hA.chgs
        have HL := Lib.hid hA.len
        have HX := Lib.hid hx
        obtain ⟨_, _, c1, c2, _, c5, _, _, z1, z2, z3, _, _⟩ := hA
        unfold maxLen at z1 z2 z3
        clear hx
        by_cases h1 : (300 : Int) < (x.uri.size : Int)
        · have hb := BT.out (fun h => by have := (h.1 x (List.mem_of_getElem? HX.out)).1; omega)
          subst hb
          go_wp2
          go_ret
          exact ⟨rfl, rfl⟩
        by_cases h2 : (300 : Int) < (x.text.size : Int)
        · have hb := BT.out (fun h => by have := (h.1 x (List.mem_of_getElem? HX.out)).2.1; omega)
          subst hb
          go_wp2
          go_ret
          exact ⟨rfl, rfl⟩
        by_cases h3 : (8 : Int) < (x.ln : Int)
        · have hb := BT.out (fun h => by have := (h.1 x (List.mem_of_getElem? HX.out)).2.2.1; have := HL.out; omega)
          subst hb
          go_wp2
          go_ret
          exact ⟨rfl, rfl⟩
        go_wp2
        go_loop [4] (fun v => ∃ q : Nat, v = .int .i64 q ∧ q ≤ x.ln ∧ ∀ j y, j < q → x.l[j]? = some y → y.text.size ≤ 300) (fun v => x.ln - (RowKit.intOf v).toNat)
        case atStart => exact ⟨0, rfl, Nat.zero_le _, fun j x h => by omega⟩
        case round =>
          obtain ⟨q, rfl, hq, hoq⟩ := hrel
          have HOQ := Lib.hid hoq
          clear hoq
          by_cases hqn : (q : Int) < (x.ln : Int)
          · have hql : q < x.l.length := by have := HL.out; omega
            obtain ⟨y, hy⟩ : ∃ y, x.l[q]? = some y := ⟨_, List.getElem?_eq_getElem hql⟩
            obtain ⟨a2, ha2, hA2⟩ := HC.out q y hy
            have HY := Lib.hid hy
            obtain ⟨_, _, _, _, _, d5, dz, _⟩ := hA2
            unfold maxLen at dz
            rw [ha2] at c5
            clear hy ha2
            by_cases h4 : (300 : Int) < (y.text.size : Int)
            · have hb := BT.out (fun h => by have := (h.1 x (List.mem_of_getElem? HX.out)).2.2.2 y (List.mem_of_getElem? HY.out); omega)
              subst hb
              go_wp2
              go_ret
              exact ⟨rfl, rfl⟩
            · go_wp2
              go_round
              case rel => exact ⟨q + 1, by go_num, by omega, fun j z hj hz => by
                by_cases e : j = q
                · subst e
                  rw [HY.out] at hz
                  cases hz
                  omega
                · exact HOQ.out j z (by omega) hz⟩
              case measure => simp [RowKit.intOf]; omega
          · go_wp2
            go_round
            case rel => exact ⟨k + 1, by go_num, by omega, by omega, fun j z hj hz => by
              by_cases e : j = k
              · subst e
                rw [HX.out] at hz
                cases hz
                refine ⟨by omega, by omega, by have := HL.out; omega, fun y hy => ?_⟩
                obtain ⟨i, hi⟩ := List.getElem?_of_mem hy
                exact HOQ.out i y (by have := (List.getElem?_eq_some_iff.1 hi).1; have := HL.out; omega) hi
              · exact HOK.out j z (by omega) hz⟩
            case measure => simp [RowKit.intOf]; omega
      · have h30 : (30 : Int) < (n : Int) := by omega
        have hb := BT.out (fun h => by have := h.2; have := HN.out; omega)
        subst hb
        go_wp2
        go_ret
        exact ⟨rfl, rfl⟩
    · have hall : ∀ x ∈ l, okA x := fun x hx => by
        obtain ⟨i, hi⟩ := List.getElem?_of_mem hx
        exact HOK.out i x (by have := (List.getElem?_eq_some_iff.1 hi).1; have := HN.out; omega) hi
      by_cases h30 : (30 : Int) < (n : Int)
      · have hb := BT.out (fun h => by have := h.2; have := HN.out; omega)
        subst hb
        clear hall
        go_wp2
        go_ret
        exact ⟨rfl, rfl⟩
      · have hb := BF.out ⟨hall, by have := HN.out; omega⟩
        subst hb
        clear hall
        go_wp2
        go_ret
        exact ⟨rfl, rfl⟩
end Go.Proofs.Sn
namespace Go.Proofs.Sn
open Go.RowKit Go.Maps Go.Proofs Go.Lib Go.ChangeShapes Go.WideShapes Go.Deep Go.Proofs.Dc

section
variable {H : Type} {enc : TypeId × Value → H} {w : World} {base : Nat} {spare : Nat → Bool} {held : Bool}
theorem cn47 : Tryz.prog.cellsOf 47 = 6 := by kernel_rfl
set_option maxRecDepth 100000 in
theorem act_trod {fuel : Nat} {cs : List Value} {x : DataW H × List MemPlace} (h : DataW.trod enc Tryz.prog w base spare held fuel 47 cs = some x) :
    ∃ y : Act, cs[0]? = some (.int .i64 y.todo) ∧ cs[1]? = some (.int .i64 y.gn) ∧ cs[2]? = some (.string y.uri) ∧ cs[3]? = some (.string y.text) ∧ cs[4]? = some (.int .i64 y.ver) ∧ cs[5]? = some (.slice y.lp y.ln y.lc) ∧
      ChgsAt w y.lp y.l ∧ y.ln = y.l.length ∧ y.ln ≤ maxLen ∧ y.uri.size ≤ maxLen ∧ y.text.size ≤ maxLen ∧ wfI y.gn := by
  obtain ⟨xs, m, _, _, hlen, hl, hf⟩ := DataW.trod_struct Tryz.underlying47 h
  match xs, hl with
  | [y0, y1, y2, y3, y4, y5], _ =>
    have h0 := hf 0 _ rfl
    have h1 := hf 1 _ rfl
    have h2 := hf 2 _ rfl
    have h3 := hf 3 _ rfl
    have h4 := hf 4 _ rfl
    have h5 := hf 5 _ rfl
    simp [cn3] at h0
    simp [cn3] at h1
    simp [cn9] at h2
    simp [cn9] at h3
    simp [cn2] at h4
    simp [cn26] at h5
    obtain ⟨a0, e0, _⟩ := DataW.trod_int (k := .i64) Tryz.underlying3 h0
    obtain ⟨a1, e1, _, z1⟩ := DataW.trod_int (k := .i64) Tryz.underlying3 h1
    obtain ⟨a2, e2, _, s1⟩ := DataW.trod_string Tryz.underlying9 h2
    obtain ⟨a3, e3, _, s2⟩ := DataW.trod_string Tryz.underlying9 h3
    obtain ⟨a4, e4, _⟩ := DataW.trod_int (k := .i64) Tryz.underlying2 h4
    obtain ⟨p, n, c, e5, hn, l, hl2, _, hI⟩ := changes_trod h5
    exact ⟨⟨a0, a1, a2, a3, a4, p, n, c, l⟩, Go.Proofs.Dc.one_cell (i := 0) (by simpa using e0), Go.Proofs.Dc.one_cell (i := 1) (by simpa using e1), Go.Proofs.Dc.one_cell (i := 2) (by simpa using e2), Go.Proofs.Dc.one_cell (i := 3) (by simpa using e3), Go.Proofs.Dc.one_cell (i := 4) (by simpa using e4), Go.Proofs.Dc.one_cell (i := 5) (by simpa using e5), hI, hl2, hn, s1, s2, z1⟩
theorem act_at {a : Addr} {i : Nat} {cs : List Value} (hc : w.cells? base (a.add (i * 6)) 6 = some cs) {fuel : Nat} {x : DataW H × List MemPlace} (h : DataW.trod enc Tryz.prog w base spare held fuel 47 cs = some x) : ∃ y, ActAt w (a.add (i * 6)) y := by
  obtain ⟨y, e0, e1, e2, e3, e4, e5, r1, r2, r3, r4, r5, r6⟩ := act_trod h
  obtain ⟨_, hcl, hat⟩ := World.cells?_some hc
  have hx : ∀ (j : Nat) (v : Value), 0 < j → j < 6 → cs[j]? = some v → w.cell? ⟨(a.add (i * 6)).block, (a.add (i * 6)).off + j, none⟩ = some v := fun j v hj0 hj hv => by
    rw [← add_at a (i * 6) j hj0, ← Go.Deep.add_add, hat j hj]
    exact hv
  have h0 : w.cell? (a.add (i * 6)) = some (.int .i64 y.todo) := by
    have := hat 0 (by omega)
    rw [show (a.add (i * 6)).add 0 = a.add (i * 6) by simp [Addr.add]] at this
    exact this.trans e0
  exact ⟨y, h0, hx 1 _ (by omega) (by omega) e1, hx 2 _ (by omega) (by omega) e2, hx 3 _ (by omega) (by omega) e3, hx 4 _ (by omega) (by omega) e4, hx 5 _ (by omega) (by omega) e5, r1, r2, r3, r4, r5, r6, World.block_lt_of_cell? w _ h0⟩
set_option maxRecDepth 100000 in
theorem acts2_arg {v : Value} {d : DataW H} {ps : List MemPlace} (hv : Value.okWide Tryz.prog w .any base 40 v) (h : DataW.Trod enc Tryz.prog w 0 (fun _ => true) true 40 v d ps) :
    ∃ (p : Option Addr) (n c : Nat), v = .slice p n c ∧ n ≤ maxLen ∧ ∃ l : List Act, n = l.length ∧ ActsAt w p l := by
  obtain ⟨a0, len, cap, rfl⟩ := okWide_slice Tryz.underlying40 hv
  obtain ⟨fuel, hf⟩ := h
  rcases open_slice Tryz.underlying40 hf with ⟨hcs, _⟩ | ⟨a, len', cap', m, n, D, Pl, hcs, _, hl, hm, hz, _, hcell⟩
  · simp [Value.cells] at hcs
    obtain ⟨rfl, rfl, rfl⟩ := hcs
    exact ⟨_, _, _, rfl, Nat.zero_le _, [], rfl, fun i x hx => by simp at hx⟩
  · simp [Value.cells] at hcs
    obtain ⟨rfl, rfl, rfl⟩ := hcs
    have hlm : len ≤ m := by rw [hz]; split <;> omega
    obtain ⟨l, hll, hp⟩ := list_of len (fun i y => ActAt w (a.add (i * 6)) y) fun i hi => by
      obtain ⟨cs', hc, ht⟩ := hcell i (by omega)
      rw [cn47] at hc
      exact act_at hc ht
    exact ⟨_, _, _, rfl, Nat.le_trans hl hm, l, hll.symm, fun i x hx => ⟨a, rfl, hp i x hx⟩⟩
end
end Go.Proofs.Sn
