/- docs.after. -/
import Derived.Test.YtcenfckjkboabaaDoorDr
import Derived.Test.YtcenfckjkboabaaDoorD6
namespace Go.Proofs.Dc
open Go.RowKit Go.Proofs Go.Lib Go.Maps

/-- a change in memory -/
structure ChgAt (w : World) (p : Addr) (x : Chg) : Prop where
  c0 : w.cell? p = some (.bool x.whole)
  c1 : w.cell? ⟨p.block, p.off + 1, none⟩ = some (.int .i64 x.a)
  c2 : w.cell? ⟨p.block, p.off + 2, none⟩ = some (.int .i64 x.b)
  c3 : w.cell? ⟨p.block, p.off + 3, none⟩ = some (.int .i64 x.c)
  c4 : w.cell? ⟨p.block, p.off + 4, none⟩ = some (.int .i64 x.d)
  c5 : w.cell? ⟨p.block, p.off + 5, none⟩ = some (.string x.text)
  ssz : x.text.size ≤ maxLen
  blk : p.block < w.heap.size
theorem ChgAt.below {w w' : World} {p : Addr} {x : Chg} (h : ChgAt w p x) (hb : Below w.heap.size w w') : ChgAt w' p x :=
  ⟨(hb.cell h.blk).trans h.c0, (hb.cell (by exact h.blk)).trans h.c1, (hb.cell (by exact h.blk)).trans h.c2, (hb.cell (by exact h.blk)).trans h.c3, (hb.cell (by exact h.blk)).trans h.c4, (hb.cell (by exact h.blk)).trans h.c5, h.ssz, Nat.lt_of_lt_of_le h.blk hb.size⟩
/-- changes in memory -/
def ChgsAt (w : World) (p : Option Addr) (l : List Chg) : Prop := ∀ i x, l[i]? = some x → ∃ a, p = some a ∧ ChgAt w (a.add (i * 6)) x
theorem ChgsAt.below {w w' : World} {p : Option Addr} {l : List Chg} (h : ChgsAt w p l) (hb : Below w.heap.size w w') : ChgsAt w' p l := fun i x hx => by
  obtain ⟨a, h1, h2⟩ := h i x hx
  exact ⟨a, h1, h2.below hb⟩
def chgCells (x : Chg) : Obj := .cells #[.bool x.whole, .int .i64 x.a, .int .i64 x.b, .int .i64 x.c, .int .i64 x.d, .string x.text] 54
/-- a change in a box of its own -/
theorem chg_box (w w1 : World) (x : Chg) (hb : Below (w.alloc (chgCells x)).heap.size (w.alloc (chgCells x)) w1) :
    w1.cell? ⟨w.heap.size, 0, none⟩ = some (.bool x.whole) ∧ w1.cell? ⟨w.heap.size, 1, none⟩ = some (.int .i64 x.a) ∧ w1.cell? ⟨w.heap.size, 2, none⟩ = some (.int .i64 x.b) ∧ w1.cell? ⟨w.heap.size, 3, none⟩ = some (.int .i64 x.c) ∧ w1.cell? ⟨w.heap.size, 4, none⟩ = some (.int .i64 x.d) ∧ w1.cell? ⟨w.heap.size, 5, none⟩ = some (.string x.text) := by
  have h1 : w1.heap[w.heap.size]? = some (chgCells x) := (hb.block _ (by simp)).trans (World.alloc_heap_new w _)
  unfold chgCells at h1
  refine ⟨?_, ?_, ?_, ?_, ?_, ?_⟩ <;> simp [World.cell?, h1]
theorem below_box {B : Nat} {w w0 w1 : World} {o : Obj} (h : Below B w0 w) (hz : B ≤ w.heap.size) (hb : Below (w.alloc o).heap.size (w.alloc o) w1) : Below B w0 w1 :=
  (h.trans ((Below.refl _ w).alloc hz o)).trans (hb.mono (by simp; omega))
set_option maxRecDepth 100000 in
set_option maxHeartbeats 4000000 in
theorem after_any (w : World) (hT : Tabs w) (s : ByteArray) (hs : s.size ≤ 1000000) (p : Option Addr) (n c : Nat) (l : List Chg) (hn : n = l.length) (hn2 : n ≤ maxLen) (hI : ChgsAt w p l) (hXs : ∀ x ∈ l, x.text.size ≤ 1000000) :
    Calls Tryd.prog 36 #[.string s, .slice p n c] w fun e w' => e = .returned (.tuple #[.string (afterV s l).1, .int .i64 (afterV s l).2]) ∧ Below w.heap.size w w' := by
  unfold maxLen at hn2
  obtain ⟨R, hR⟩ : ∃ R, afterV s l = R := ⟨_, rfl⟩
  rw [hR]
  obtain ⟨R1, R2⟩ := R
  simp only
  have HI := Lib.hid hI
  have HXS := Lib.hid hXs
  have HN := Lib.hid hn
  have HR := Lib.hid hR
  clear hI hn hR hXs
  go_enter Tryd.func36, Tryd.ntmps36
  go_wp2
  go_loopw [0, 15] (fun sv v wr => ∃ (k : Nat) (S : ByteArray), v = .int .i64 k ∧ k ≤ n ∧ sv = .string S ∧ S.size ≤ 1000000 ∧ afterV S (l.drop k) = (R1, R2) ∧ Below w.heap.size w wr) (fun _ v _ => n - (RowKit.intOf v).toNat)
  case atStart => exact ⟨0, s, rfl, Nat.zero_le _, rfl, hs, HR.out, Below.refl _ _⟩
  case round =>
    obtain ⟨k, S, rfl, hk, rfl, hS, hr, hB⟩ := hrel
    have hzB := hB.size
    by_cases hkn : (k : Int) < (n : Int)
    · have hkl : k < l.length := by have := HN.out; omega
      obtain ⟨x, hx⟩ : ∃ x, l[k]? = some x := ⟨_, List.getElem?_eq_getElem hkl⟩
      have hdrop : l.drop k = x :: l.drop (k + 1) := by rw [List.drop_eq_getElem_cons hkl, (List.getElem?_eq_some_iff.1 hx).2]
      rw [hdrop] at hr
      obtain ⟨a, rfl, hA⟩ := HI.out k x hx
      obtain ⟨e0, e1, e2, e3, e4, e5, _, _⟩ := hA.below hB
      have hsz := HXS.out x (List.mem_of_getElem? hx)
      have hbox := fun w1 => chg_box wr w1 x
      have bV : Below w.heap.size w (wr.alloc (chgCells x)) := hB.trans ((Below.refl _ wr).alloc hzB _)
      have hval := valid_any x.text (wr.alloc (chgCells x)) (by omega) (hT.below bV).u8
      have hnext := fun t h => (afterV_cons_ok (s := S) (t := t) (x := x) (r := l.drop (k + 1)) h).symm.trans hr
      have herr := fun e h he => (afterV_cons_err (s := S) (t := ⟨#[]⟩) (x := x) (r := l.drop (k + 1)) (e := e) h he).symm.trans hr
      have hbad := fun h => stepV_bad (s := S) (x := x) h
      have hoff := fun f t e hv hp he => stepV_off (s := S) (x := x) (f := f) (t := t) (e := e) hv hp he
      have hlong := fun f t hv hp he => stepV_long (s := S) (x := x) (f := f) (t := t) hv hp he
      have hok := fun f t hv hp he => stepV_ok (s := S) (x := x) (f := f) (t := t) hv hp he
      have hpl : x.places S = x.places S := rfl
      conv at hpl => rhs; unfold Chg.places
      have hin := places_in S x
      obtain ⟨xw, xa, xb, xc, xd, X⟩ := x
      simp only [chgCells] at *
      clear hr hdrop hx hkl
      have HK1 := Lib.hid hok
      have HK2 := Lib.hid hnext
      have HK3 := Lib.hid herr
      have HK4 := Lib.hid hlong
      have HK5 := Lib.hid hoff
      have HK6 := Lib.hid hbad
      clear hok hnext herr hlong hoff hbad
      cases hvv : validD X.data.toList with
      | false =>
        rw [hvv] at hval
        have hfin := HK3.out _ (HK6.out hvv) (by decide)
        cases hfin
        clear hpl hin hvv
        go_wp2_with (first | (go_at_call 10; refine hval.mono ?_; rintro e w3 ⟨rfl, hb3⟩))
        go_ret2
        exact ⟨rfl, below_box hB hzB hb3⟩
      | true =>
        rw [hvv] at hval
        cases xw with
        | true =>
          have hp2 : Chg.places S ⟨true, xa, xb, xc, xd, X⟩ = (((0 : Nat) : Int), (S.size : Int), 0) := hpl
          have hlong := fun h => HK4.out _ _ hvv hp2 h
          have hok := fun h => HK1.out _ _ hvv hp2 h
          clear hpl hin hp2
          by_cases hl : (65536 : Int) < (S.size : Int) - ((S.size : Int) - 0) + (X.size : Int)
          · have hfin := HK3.out _ (hlong hl) (by decide)
            cases hfin
            clear hlong hok hvv
            go_wp2_with (first | (go_at_call 10; refine hval.mono ?_; rintro e w3 ⟨rfl, hb3⟩; obtain ⟨b0, b1, b2, b3, b4, b5⟩ := hbox w3 hb3))
            go_ret2
            exact ⟨rfl, below_box hB hzB hb3⟩
          · have hX : S.extract 0 0 ++ X ++ S.extract S.size S.size = X := by
              apply ByteArray.ext
              simp
            have hf0 := HK2.out _ (hok hl)
            have hz0 := stepV_size (hok hl)
            rw [hX] at hf0 hz0
            have HF := Lib.hid hf0
            have HZ := Lib.hid hz0
            clear hlong hok hvv hf0 hz0 hX
            go_wp2_with (first | (go_at_call 10; refine hval.mono ?_; rintro e w3 ⟨rfl, hb3⟩; obtain ⟨b0, b1, b2, b3, b4, b5⟩ := hbox w3 hb3; have hB3 := below_box hB hzB hb3))
            go_quiet (fail)
            go_wp2
            go_roundw
            case rel => exact ⟨k + 1, _, by go_num, by omega, rfl, by have := HZ.out; omega, HF.out, below_draws hB3 _⟩
            case measure => simp [RowKit.intOf]; omega
        | false =>
          have hcut := fun w => YtcenfckjkboabaaDoor.cut_any S xa xb xc xd w (by omega)
          have hp2 : Chg.places S ⟨false, xa, xb, xc, xd, X⟩ = YtcenfckjkboabaaDoor.cutP S xa xb xc xd := hpl
          rw [hp2] at hin
          obtain ⟨C, hC⟩ : ∃ C, YtcenfckjkboabaaDoor.cutP S xa xb xc xd = C := ⟨_, rfl⟩
          rw [hC] at hp2 hin
          simp only [hC] at hcut
          obtain ⟨A, B, E⟩ := C
          simp only at hcut hin
          obtain ⟨i1, i2, i3, i4⟩ := hin
          clear hpl hC
          rcases i4 with rfl | rfl
          · obtain ⟨f, rfl⟩ : ∃ f : Nat, A = f := ⟨A.toNat, by omega⟩
            obtain ⟨t, rfl⟩ : ∃ t : Nat, B = t := ⟨B.toNat, by omega⟩
            have hlong := fun h => HK4.out _ _ hvv hp2 h
            have hok := fun h => HK1.out _ _ hvv hp2 h
            clear hp2
            by_cases hl : (65536 : Int) < (S.size : Int) - ((t : Int) - (f : Int)) + (X.size : Int)
            · have hfin := HK3.out _ (hlong hl) (by decide)
              cases hfin
              clear hlong hok hvv
              go_wp2_with (first
                | (go_at_call 10; refine hval.mono ?_; rintro e w3 ⟨rfl, hb3⟩; obtain ⟨b0, b1, b2, b3, b4, b5⟩ := hbox w3 hb3)
                | (go_at_call 50; refine (hcut _).mono ?_; rintro e w4 ⟨rfl, hb4⟩; obtain ⟨d0, d1, d2, d3, d4, d5⟩ := hbox w4 (hb3.trans (hb4.mono hb3.size))))
              go_ret2
              exact ⟨rfl, below_box hB hzB (hb3.trans (hb4.mono hb3.size))⟩
            · have HF := Lib.hid (HK2.out _ (hok hl))
              have HZ := Lib.hid (stepV_size (hok hl))
              clear hlong hok hvv
              go_wp2_with (first
                | (go_at_call 10; refine hval.mono ?_; rintro e w3 ⟨rfl, hb3⟩; obtain ⟨b0, b1, b2, b3, b4, b5⟩ := hbox w3 hb3)
                | (go_at_call 50; refine (hcut _).mono ?_; rintro e w4 ⟨rfl, hb4⟩; obtain ⟨d0, d1, d2, d3, d4, d5⟩ := hbox w4 (hb3.trans (hb4.mono hb3.size)); have hB4 := below_box hB hzB (hb3.trans (hb4.mono hb3.size))))
              go_quiet (fail)
              go_wp2
              go_roundw
              case rel => exact ⟨k + 1, _, by go_num, by omega, rfl, by have := HZ.out; omega, HF.out, below_draws hB4 _⟩
              case measure => simp [RowKit.intOf]; omega
          · have hfin := HK3.out _ (HK5.out _ _ _ hvv hp2 (by decide)) (by decide)
            cases hfin
            clear hp2 hvv
            go_wp2_with (first
              | (go_at_call 10; refine hval.mono ?_; rintro e w3 ⟨rfl, hb3⟩; obtain ⟨b0, b1, b2, b3, b4, b5⟩ := hbox w3 hb3)
              | (go_at_call 50; refine (hcut _).mono ?_; rintro e w4 ⟨rfl, hb4⟩))
            go_ret2
            exact ⟨rfl, below_box hB hzB (hb3.trans (hb4.mono hb3.size))⟩
    · have hd : l.drop k = [] := List.drop_eq_nil_of_le (by have := HN.out; omega)
      rw [hd] at hr
      cases hr
      go_wp2
      go_ret2
      exact ⟨rfl, hB⟩
end Go.Proofs.Dc
