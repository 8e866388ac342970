/- Acts in memory; the laws' large. -/
import Derived.Test.YtcenfckjkboabaaDoorD7
namespace Go.Proofs.Dc
open Go.RowKit Go.Proofs Go.Lib Go.Maps

/-- an act -/
structure Act where
  todo : Int
  uri : ByteArray
  text : ByteArray
  times : Int
  ver : Int
  lp : Option Addr
  ln : Nat
  lc : Nat
  l : List Chg
  fill : Int
structure ActAt (w : World) (p : Addr) (x : Act) : Prop where
  c0 : w.cell? p = some (.int .i64 x.todo)
  c1 : w.cell? ⟨p.block, p.off + 1, none⟩ = some (.string x.uri)
  c2 : w.cell? ⟨p.block, p.off + 2, none⟩ = some (.string x.text)
  c3 : w.cell? ⟨p.block, p.off + 3, none⟩ = some (.int .i64 x.times)
  c4 : w.cell? ⟨p.block, p.off + 4, none⟩ = some (.int .i64 x.ver)
  c5 : w.cell? ⟨p.block, p.off + 5, none⟩ = some (.slice x.lp x.ln x.lc)
  c6 : w.cell? ⟨p.block, p.off + 6, none⟩ = some (.int .u8 x.fill)
  chgs : ChgsAt w x.lp x.l
  len : x.ln = x.l.length
  lsz : x.ln ≤ maxLen
  usz : x.uri.size ≤ maxLen
  tsz : x.text.size ≤ maxLen
  flo : 0 ≤ x.fill
  fhi : x.fill ≤ 255
  blk : p.block < w.heap.size
theorem ActAt.below {w w' : World} {p : Addr} {x : Act} (h : ActAt w p x) (hb : Below w.heap.size w w') : ActAt w' p x :=
  ⟨(hb.cell h.blk).trans h.c0, (hb.cell (by exact h.blk)).trans h.c1, (hb.cell (by exact h.blk)).trans h.c2, (hb.cell (by exact h.blk)).trans h.c3, (hb.cell (by exact h.blk)).trans h.c4, (hb.cell (by exact h.blk)).trans h.c5, (hb.cell (by exact h.blk)).trans h.c6, h.chgs.below hb, h.len, h.lsz, h.usz, h.tsz, h.flo, h.fhi, Nat.lt_of_lt_of_le h.blk hb.size⟩
def ActsAt (w : World) (p : Option Addr) (l : List Act) : Prop := ∀ i x, l[i]? = some x → ∃ a, p = some a ∧ ActAt w (a.add (i * 7)) x
theorem ActsAt.below {w w' : World} {p : Option Addr} {l : List Act} (h : ActsAt w p l) (hb : Below w.heap.size w w') : ActsAt w' p l := fun i x hx => by
  obtain ⟨a, h1, h2⟩ := h i x hx
  exact ⟨a, h1, h2.below hb⟩
def okA (a : Act) : Prop := a.uri.size ≤ 300 ∧ a.text.size ≤ 300 ∧ a.l.length ≤ 8 ∧ ∀ x ∈ a.l, x.text.size ≤ 300
/-- is there more than is looked at? -/
def Small (l : List Act) : Prop := (∀ x ∈ l, okA x) ∧ l.length ≤ 12
/-- what large answers -/
noncomputable def largeB (l : List Act) : Bool := @decide (¬ Small l) (Classical.propDecidable _)
theorem large_true {l : List Act} (h : ¬ Small l) : largeB l = true := @decide_eq_true _ (Classical.propDecidable _) h
theorem large_false {l : List Act} (h : Small l) : largeB l = false := @decide_eq_false _ (Classical.propDecidable _) fun g => g h
theorem small_of {l : List Act} (h : largeB l = false) : Small l := Classical.not_not.1 (@of_decide_eq_false _ (Classical.propDecidable _) h)
set_option maxRecDepth 100000 in
set_option maxHeartbeats 4000000 in
theorem large_any (w : World) (p : Option Addr) (n c : Nat) (l : List Act) (hn : n = l.length) (hn2 : n ≤ maxLen) (hI : ActsAt w p l) :
    Calls Tryd.prog 11 #[.slice p n c] w fun e w' => e = .returned (.bool (largeB l)) ∧ w = w' := by
  unfold maxLen at hn2
  obtain ⟨B, hB⟩ : ∃ B, largeB l = B := ⟨_, rfl⟩
  have hbt := fun h => (large_true (l := l) h).symm.trans hB
  have hbf := fun h => (large_false (l := l) h).symm.trans hB
  rw [hB]
  have BT := Lib.hid hbt
  have BF := Lib.hid hbf
  have HI := Lib.hid hI
  have HN := Lib.hid hn
  clear hI hn hbt hbf hB
  go_enter Tryd.func11, Tryd.ntmps11
  go_wp2
  go_loop [3] (fun v => ∃ k : Nat, v = .int .i64 k ∧ k ≤ n ∧ k ≤ 20 ∧ ∀ j x, j < k → l[j]? = some x → okA x) (fun v => 20 - (RowKit.intOf v).toNat)
  case atStart => exact ⟨0, rfl, Nat.zero_le _, Nat.zero_le _, fun j x h => by omega⟩
  case round =>
    obtain ⟨k, rfl, hk, hk2, hok⟩ := hrel
    have HOK := Lib.hid hok
    clear hok
    by_cases hkn : (k : Int) < (n : Int)
    · by_cases hk20 : (k : Int) < 20
      · have hkl : k < l.length := by have := HN.out; omega
        obtain ⟨x, hx⟩ : ∃ x, l[k]? = some x := ⟨_, List.getElem?_eq_getElem hkl⟩
        obtain ⟨a, rfl, hA⟩ := HI.out k x hx
        have HC := Lib.hid hA.chgs
        have HL := Lib.hid hA.len
        have HX := Lib.hid hx
        obtain ⟨_, c1, c2, _, _, c5, _, _, _, z1, z2, z3, _, _, _⟩ := hA
        unfold maxLen at z1 z2 z3
        clear hx
        by_cases h1 : (300 : Int) < (x.uri.size : Int)
        · have hb := BT.out (fun h => by have := (h.1 x (List.mem_of_getElem? HX.out)).1; omega)
          subst hb
          go_wp2
          go_ret
          exact ⟨rfl, rfl⟩
        by_cases h2 : (300 : Int) < (x.text.size : Int)
        · have hb := BT.out (fun h => by have := (h.1 x (List.mem_of_getElem? HX.out)).2.1; omega)
          subst hb
          go_wp2
          go_ret
          exact ⟨rfl, rfl⟩
        by_cases h3 : (8 : Int) < (x.ln : Int)
        · have hb := BT.out (fun h => by have := (h.1 x (List.mem_of_getElem? HX.out)).2.2.1; have := HL.out; omega)
          subst hb
          go_wp2
          go_ret
          exact ⟨rfl, rfl⟩
        go_wp2
        go_loop [4] (fun v => ∃ q : Nat, v = .int .i64 q ∧ q ≤ x.ln ∧ ∀ j y, j < q → x.l[j]? = some y → y.text.size ≤ 300) (fun v => x.ln - (RowKit.intOf v).toNat)
        case atStart => exact ⟨0, rfl, Nat.zero_le _, fun j x h => by omega⟩
        case round =>
          obtain ⟨q, rfl, hq, hoq⟩ := hrel
          have HOQ := Lib.hid hoq
          clear hoq
          by_cases hqn : (q : Int) < (x.ln : Int)
          · have hql : q < x.l.length := by have := HL.out; omega
            obtain ⟨y, hy⟩ : ∃ y, x.l[q]? = some y := ⟨_, List.getElem?_eq_getElem hql⟩
            obtain ⟨a2, ha2, hA2⟩ := HC.out q y hy
            have HY := Lib.hid hy
            obtain ⟨_, _, _, _, _, d5, dz, _⟩ := hA2
            unfold maxLen at dz
            rw [ha2] at c5
            clear hy ha2
            by_cases h4 : (300 : Int) < (y.text.size : Int)
            · have hb := BT.out (fun h => by have := (h.1 x (List.mem_of_getElem? HX.out)).2.2.2 y (List.mem_of_getElem? HY.out); omega)
              subst hb
              go_wp2
              go_ret
              exact ⟨rfl, rfl⟩
            · go_wp2
              go_round
              case rel => exact ⟨q + 1, by go_num, by omega, fun j z hj hz => by
                by_cases e : j = q
                · subst e
                  rw [HY.out] at hz
                  cases hz
                  omega
                · exact HOQ.out j z (by omega) hz⟩
              case measure => simp [RowKit.intOf]; omega
          · go_wp2
            go_round
            case rel => exact ⟨k + 1, by go_num, by omega, by omega, fun j z hj hz => by
              by_cases e : j = k
              · subst e
                rw [HX.out] at hz
                cases hz
                refine ⟨by omega, by omega, by have := HL.out; omega, fun y hy => ?_⟩
                obtain ⟨i, hi⟩ := List.getElem?_of_mem hy
                exact HOQ.out i y (by have := (List.getElem?_eq_some_iff.1 hi).1; have := HL.out; omega) hi
              · exact HOK.out j z (by omega) hz⟩
            case measure => simp [RowKit.intOf]; omega
      · have h12 : (12 : Int) < (n : Int) := by omega
        have hb := BT.out (fun h => by have := h.2; have := HN.out; omega)
        subst hb
        go_wp2
        go_ret
        exact ⟨rfl, rfl⟩
    · have hall : ∀ x ∈ l, okA x := fun x hx => by
        obtain ⟨i, hi⟩ := List.getElem?_of_mem hx
        exact HOK.out i x (by have := (List.getElem?_eq_some_iff.1 hi).1; have := HN.out; omega) hi
      by_cases h12 : (12 : Int) < (n : Int)
      · have hb := BT.out (fun h => by have := h.2; have := HN.out; omega)
        subst hb
        clear hall
        go_wp2
        go_ret
        exact ⟨rfl, rfl⟩
      · have hb := BF.out ⟨hall, by have := HN.out; omega⟩
        subst hb
        clear hall
        go_wp2
        go_ret
        exact ⟨rfl, rfl⟩
end Go.Proofs.Dc
