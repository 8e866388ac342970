/- Merged texts: Dr, D7, D8, D9, D10, D14, D15, D16, D17, D18, D19, D20, A1, D21, D22, A2, D23, A3. -/
import Derived.Test.YtcenfckjkboabaaGreatDoorGA
import Derived.Test.YtcenfckjkboabaaGreatDoorGC
import Derived.RangeFuncBox
import Derived.RangeFuncNested
import Derived.RangeFuncFrom
import Derived.RangeFuncLeaves
import Derived.RangeFuncCalls
import Derived.Shelf.Abstract
import Derived.Shelf.RegionOpen
import Derived.Sort.MapsRangeIn
import Derived.WalkKit
import Derived.OwnWalkIn
import Derived.TacticsInMore
import Derived.RegionIn
import Derived.LoopNIn
import Derived.LoopIn
import Derived.Maps.AppendAt
import Derived.Test.YtcenfckjkboabaaGreatDoorShelf2
import Derived.WalkLawsBesides
import Derived.WalkSpells
import Derived.Laws.IdiomStrings
import Derived.Lib.ConvBytes
import Derived.Lib.AppendStr
import Derived.Lib.SmallJoins
import Derived.Deep.Slices
import Derived.Deep.Fields
import Derived.ChangeSame
import Derived.OpenShut
import Derived.SizedLaws
import Derived.Carry
import Derived.Deep.DeepWitnessRowRef
/- Dr: Changes of a text, by plain functions. No program in sight. -/
namespace Go.Proofs.Dc
open Go.Lib

structure Chg where
  whole : Bool
  a : Int
  b : Int
  c : Int
  d : Int
  text : ByteArray
/-- the places of a change -/
def Chg.places (s : ByteArray) (x : Chg) : Int × Int × Int := if x.whole then (0, (s.size : Int), 0) else YtcenfckjkboabaaGreatDoor.cutP s x.a x.b x.c x.d
/-- the text behind one change, or why there is none -/
def stepV (s : ByteArray) (x : Chg) : ByteArray × Int :=
  if validD x.text.data.toList = false then (⟨#[]⟩, 8)
  else if (x.places s).2.2 ≠ 0 then (⟨#[]⟩, (x.places s).2.2)
  else if 65536 < (s.size : Int) - ((x.places s).2.1 - (x.places s).1) + (x.text.size : Int) then (⟨#[]⟩, 3)
  else (s.extract 0 (x.places s).1.toNat ++ x.text ++ s.extract (x.places s).2.1.toNat s.size, 0)
/-- the text behind all changes -/
def afterV (s : ByteArray) : List Chg → ByteArray × Int
  | [] => (s, 0)
  | x :: r => if (stepV s x).2 = 0 then afterV (stepV s x).1 r else (⟨#[]⟩, (stepV s x).2)
theorem afterV_cons_ok {s t : ByteArray} {x : Chg} {r : List Chg} (h : stepV s x = (t, 0)) : afterV s (x :: r) = afterV t r := by
  rw [afterV, h]; rfl
theorem afterV_cons_err {s t : ByteArray} {x : Chg} {r : List Chg} {e : Int} (h : stepV s x = (t, e)) (he : e ≠ 0) : afterV s (x :: r) = (⟨#[]⟩, e) := by
  rw [afterV, h]; exact if_neg he
open YtcenfckjkboabaaGreatDoor in
theorem offP_in (s : ByteArray) (a b : Int) : 0 ≤ (offP s a b).1 ∧ (offP s a b).1 ≤ s.size ∧ ((offP s a b).2 = 0 ∨ (offP s a b).2 = 2) := by
  unfold offP
  split
  · exact ⟨by simp, by simp, .inr rfl⟩
  · split
    · exact ⟨by simp, by simp, .inl rfl⟩
    · rename_i x hl
      have hx := lineAt_in hl
      have hz := lineB_size s x
      have hby := byteP_le (Utf.pieces (lineB s x).data.toList) 0 0 b
      rw [Utf.widthP_pieces _ _ (Nat.le_refl _), ← Lib.size_eq, hz] at hby
      refine ⟨by simp; omega, ?_, .inl rfl⟩
      simp only
      omega
open YtcenfckjkboabaaGreatDoor in
theorem cutP_in (s : ByteArray) (a b c d : Int) : 0 ≤ (cutP s a b c d).1 ∧ (cutP s a b c d).1 ≤ (cutP s a b c d).2.1 ∧ (cutP s a b c d).2.1 ≤ s.size ∧ ((cutP s a b c d).2.2 = 0 ∨ (cutP s a b c d).2.2 = 2) := by
  unfold cutP
  have h1 := offP_in s a b
  have h2 := offP_in s c d
  split
  · exact ⟨by simp, by simp, by simp, .inr rfl⟩
  · rename_i h
    refine ⟨h1.1, ?_, h2.2.1, .inl rfl⟩
    simp only
    omega
theorem places_in (s : ByteArray) (x : Chg) : 0 ≤ (x.places s).1 ∧ (x.places s).1 ≤ (x.places s).2.1 ∧ (x.places s).2.1 ≤ s.size ∧ ((x.places s).2.2 = 0 ∨ (x.places s).2.2 = 2) := by
  unfold Chg.places
  split
  · exact ⟨by simp, by simp, by simp, .inl rfl⟩
  · exact cutP_in s _ _ _ _
theorem stepV_bad {s : ByteArray} {x : Chg} (hv : validD x.text.data.toList = false) : stepV s x = (⟨#[]⟩, 8) := by unfold stepV; rw [if_pos hv]
theorem stepV_off {s : ByteArray} {x : Chg} {f t e : Int} (hv : validD x.text.data.toList = true) (hp : x.places s = (f, t, e)) (he : e ≠ 0) : stepV s x = (⟨#[]⟩, e) := by
  unfold stepV
  rw [if_neg (by rw [hv]; decide), hp, if_pos he]
theorem stepV_long {s : ByteArray} {x : Chg} {f t : Nat} (hv : validD x.text.data.toList = true) (hp : x.places s = ((f : Int), (t : Int), 0)) (hl : 65536 < (s.size : Int) - ((t : Int) - (f : Int)) + (x.text.size : Int)) : stepV s x = (⟨#[]⟩, 3) := by
  unfold stepV
  rw [if_neg (by rw [hv]; decide), hp, if_neg (by simp), if_pos hl]
theorem stepV_ok {s : ByteArray} {x : Chg} {f t : Nat} (hv : validD x.text.data.toList = true) (hp : x.places s = ((f : Int), (t : Int), 0)) (hl : ¬ 65536 < (s.size : Int) - ((t : Int) - (f : Int)) + (x.text.size : Int)) : stepV s x = (s.extract 0 f ++ x.text ++ s.extract t s.size, 0) := by
  unfold stepV
  rw [if_neg (by rw [hv]; decide), hp, if_neg (by simp), if_neg hl]
  rfl
theorem stepV_size {s t : ByteArray} {x : Chg} (h : stepV s x = (t, 0)) : t.size ≤ 65536 := by
  unfold stepV at h
  have hp := places_in s x
  split at h
  · cases h
  · split at h
    · rename_i hh; exact absurd (congrArg Prod.snd h) hh
    · split at h
      · cases h
      · cases h
        simp only [ByteArray.size_append, ByteArray.size_extract]
        omega
theorem stepV_err (s : ByteArray) (x : Chg) : (stepV s x).2 = 0 ∨ (stepV s x).2 = 2 ∨ (stepV s x).2 = 3 ∨ (stepV s x).2 = 8 := by
  unfold stepV
  have hp := places_in s x
  split
  · exact .inr (.inr (.inr rfl))
  · split
    · simp only; omega
    · split
      · exact .inr (.inr (.inl rfl))
      · exact .inl rfl
theorem afterV_err (s : ByteArray) (l : List Chg) : (afterV s l).2 = 0 ∨ (afterV s l).2 = 2 ∨ (afterV s l).2 = 3 ∨ (afterV s l).2 = 8 := by
  induction l generalizing s with
  | nil => exact .inl rfl
  | cons x r ih =>
    rw [afterV]
    split
    · exact ih _
    · exact stepV_err s x
theorem afterV_size (s : ByteArray) (l : List Chg) : (afterV s l).1.size ≤ max s.size 65536 := by
  induction l generalizing s with
  | nil => exact Nat.le_max_left _ _
  | cons x r ih =>
    rw [afterV]
    split
    · rename_i h
      have := ih (stepV s x).1
      have := stepV_size (s := s) (x := x) (t := (stepV s x).1) (by rw [← h])
      omega
    · exact Nat.zero_le _
end Go.Proofs.Dc
/- D7: docs.after. -/
namespace Go.Proofs.Dc
open Go.RowKit Go.Proofs Go.Lib Go.Maps

/-- a change in memory -/
structure ChgAt (w : World) (p : Addr) (x : Chg) : Prop where
  c0 : w.cell? p = some (.bool x.whole)
  c1 : w.cell? ⟨p.block, p.off + 1, none⟩ = some (.int .i64 x.a)
  c2 : w.cell? ⟨p.block, p.off + 2, none⟩ = some (.int .i64 x.b)
  c3 : w.cell? ⟨p.block, p.off + 3, none⟩ = some (.int .i64 x.c)
  c4 : w.cell? ⟨p.block, p.off + 4, none⟩ = some (.int .i64 x.d)
  c5 : w.cell? ⟨p.block, p.off + 5, none⟩ = some (.string x.text)
  ssz : x.text.size ≤ maxLen
  blk : p.block < w.heap.size
theorem ChgAt.below {w w' : World} {p : Addr} {x : Chg} (h : ChgAt w p x) (hb : Below w.heap.size w w') : ChgAt w' p x :=
  ⟨(hb.cell h.blk).trans h.c0, (hb.cell (by exact h.blk)).trans h.c1, (hb.cell (by exact h.blk)).trans h.c2, (hb.cell (by exact h.blk)).trans h.c3, (hb.cell (by exact h.blk)).trans h.c4, (hb.cell (by exact h.blk)).trans h.c5, h.ssz, Nat.lt_of_lt_of_le h.blk hb.size⟩
/-- changes in memory -/
def ChgsAt (w : World) (p : Option Addr) (l : List Chg) : Prop := ∀ i x, l[i]? = some x → ∃ a, p = some a ∧ ChgAt w (a.add (i * 6)) x
theorem ChgsAt.below {w w' : World} {p : Option Addr} {l : List Chg} (h : ChgsAt w p l) (hb : Below w.heap.size w w') : ChgsAt w' p l := fun i x hx => by
  obtain ⟨a, h1, h2⟩ := h i x hx
  exact ⟨a, h1, h2.below hb⟩
def chgCells (x : Chg) : Obj := .cells #[.bool x.whole, .int .i64 x.a, .int .i64 x.b, .int .i64 x.c, .int .i64 x.d, .string x.text] 78
/-- a change in a box of its own -/
theorem chg_box (w w1 : World) (x : Chg) (hb : Below (w.alloc (chgCells x)).heap.size (w.alloc (chgCells x)) w1) :
    w1.cell? ⟨w.heap.size, 0, none⟩ = some (.bool x.whole) ∧ w1.cell? ⟨w.heap.size, 1, none⟩ = some (.int .i64 x.a) ∧ w1.cell? ⟨w.heap.size, 2, none⟩ = some (.int .i64 x.b) ∧ w1.cell? ⟨w.heap.size, 3, none⟩ = some (.int .i64 x.c) ∧ w1.cell? ⟨w.heap.size, 4, none⟩ = some (.int .i64 x.d) ∧ w1.cell? ⟨w.heap.size, 5, none⟩ = some (.string x.text) := by
  have h1 : w1.heap[w.heap.size]? = some (chgCells x) := (hb.block _ (by simp)).trans (World.alloc_heap_new w _)
  unfold chgCells at h1
  refine ⟨?_, ?_, ?_, ?_, ?_, ?_⟩ <;> simp [World.cell?, h1]
theorem below_box {B : Nat} {w w0 w1 : World} {o : Obj} (h : Below B w0 w) (hz : B ≤ w.heap.size) (hb : Below (w.alloc o).heap.size (w.alloc o) w1) : Below B w0 w1 :=
  (h.trans ((Below.refl _ w).alloc hz o)).trans (hb.mono (by simp; omega))
set_option maxRecDepth 100000 in
set_option maxHeartbeats 4000000 in
theorem after_any (w : World) (hT : Tabs w) (s : ByteArray) (hs : s.size ≤ 1000000) (p : Option Addr) (n c : Nat) (l : List Chg) (hn : n = l.length) (hn2 : n ≤ maxLen) (hI : ChgsAt w p l) (hXs : ∀ x ∈ l, x.text.size ≤ 1000000) :
    Calls Tryz.prog 81 #[.string s, .slice p n c] w fun e w' => e = .returned (.tuple #[.string (afterV s l).1, .int .i64 (afterV s l).2]) ∧ Below w.heap.size w w' := by
  unfold maxLen at hn2
  obtain ⟨R, hR⟩ : ∃ R, afterV s l = R := ⟨_, rfl⟩
  rw [hR]
  obtain ⟨R1, R2⟩ := R
  simp only
  have HI := Lib.hid hI
  have HXS := Lib.hid hXs
  have HN := Lib.hid hn
  have HR := Lib.hid hR
  clear hI hn hR hXs
  go_enter Tryz.func81, Tryz.ntmps81
  go_wp2
  go_loopw [0, 15] (fun sv v wr => ∃ (k : Nat) (S : ByteArray), v = .int .i64 k ∧ k ≤ n ∧ sv = .string S ∧ S.size ≤ 1000000 ∧ afterV S (l.drop k) = (R1, R2) ∧ Below w.heap.size w wr) (fun _ v _ => n - (RowKit.intOf v).toNat)
  case atStart => exact ⟨0, s, rfl, Nat.zero_le _, rfl, hs, HR.out, Below.refl _ _⟩
  case round =>
    obtain ⟨k, S, rfl, hk, rfl, hS, hr, hB⟩ := hrel
    have hzB := hB.size
    by_cases hkn : (k : Int) < (n : Int)
    · have hkl : k < l.length := by have := HN.out; omega
      obtain ⟨x, hx⟩ : ∃ x, l[k]? = some x := ⟨_, List.getElem?_eq_getElem hkl⟩
      have hdrop : l.drop k = x :: l.drop (k + 1) := by rw [List.drop_eq_getElem_cons hkl, (List.getElem?_eq_some_iff.1 hx).2]
      rw [hdrop] at hr
      obtain ⟨a, rfl, hA⟩ := HI.out k x hx
      obtain ⟨e0, e1, e2, e3, e4, e5, _, _⟩ := hA.below hB
      have hsz := HXS.out x (List.mem_of_getElem? hx)
      have hbox := fun w1 => chg_box wr w1 x
      have bV : Below w.heap.size w (wr.alloc (chgCells x)) := hB.trans ((Below.refl _ wr).alloc hzB _)
      have hval := valid_any x.text (wr.alloc (chgCells x)) (by omega) (hT.below bV).u8
      have hnext := fun t h => (afterV_cons_ok (s := S) (t := t) (x := x) (r := l.drop (k + 1)) h).symm.trans hr
      have herr := fun e h he => (afterV_cons_err (s := S) (t := ⟨#[]⟩) (x := x) (r := l.drop (k + 1)) (e := e) h he).symm.trans hr
      have hbad := fun h => stepV_bad (s := S) (x := x) h
      have hoff := fun f t e hv hp he => stepV_off (s := S) (x := x) (f := f) (t := t) (e := e) hv hp he
      have hlong := fun f t hv hp he => stepV_long (s := S) (x := x) (f := f) (t := t) hv hp he
      have hok := fun f t hv hp he => stepV_ok (s := S) (x := x) (f := f) (t := t) hv hp he
      have hpl : x.places S = x.places S := rfl
      conv at hpl => rhs; unfold Chg.places
      have hin := places_in S x
      obtain ⟨xw, xa, xb, xc, xd, X⟩ := x
      simp only [chgCells] at *
      clear hr hdrop hx hkl
      have HK1 := Lib.hid hok
      have HK2 := Lib.hid hnext
      have HK3 := Lib.hid herr
      have HK4 := Lib.hid hlong
      have HK5 := Lib.hid hoff
      have HK6 := Lib.hid hbad
      clear hok hnext herr hlong hoff hbad
      cases hvv : validD X.data.toList with
      | false =>
        rw [hvv] at hval
        have hfin := HK3.out _ (HK6.out hvv) (by decide)
        cases hfin
        clear hpl hin hvv
        go_wp2_with (first | (go_at_call 101; refine hval.mono ?_; rintro e w3 ⟨rfl, hb3⟩))
        go_ret2
        exact ⟨rfl, below_box hB hzB hb3⟩
      | true =>
        rw [hvv] at hval
        cases xw with
        | true =>
          have hp2 : Chg.places S ⟨true, xa, xb, xc, xd, X⟩ = (((0 : Nat) : Int), (S.size : Int), 0) := hpl
          have hlong := fun h => HK4.out _ _ hvv hp2 h
          have hok := fun h => HK1.out _ _ hvv hp2 h
          clear hpl hin hp2
          by_cases hl : (65536 : Int) < (S.size : Int) - ((S.size : Int) - 0) + (X.size : Int)
          · have hfin := HK3.out _ (hlong hl) (by decide)
            cases hfin
            clear hlong hok hvv
            go_wp2_with (first | (go_at_call 101; refine hval.mono ?_; rintro e w3 ⟨rfl, hb3⟩; obtain ⟨b0, b1, b2, b3, b4, b5⟩ := hbox w3 hb3))
            go_ret2
            exact ⟨rfl, below_box hB hzB hb3⟩
          · have hX : S.extract 0 0 ++ X ++ S.extract S.size S.size = X := by
              apply ByteArray.ext
              simp
            have hf0 := HK2.out _ (hok hl)
            have hz0 := stepV_size (hok hl)
            rw [hX] at hf0 hz0
            have HF := Lib.hid hf0
            have HZ := Lib.hid hz0
            clear hlong hok hvv hf0 hz0 hX
            go_wp2_with (first | (go_at_call 101; refine hval.mono ?_; rintro e w3 ⟨rfl, hb3⟩; obtain ⟨b0, b1, b2, b3, b4, b5⟩ := hbox w3 hb3; have hB3 := below_box hB hzB hb3))
            go_quiet (fail)
            go_wp2
            go_roundw
            case rel => exact ⟨k + 1, _, by go_num, by omega, rfl, by have := HZ.out; omega, HF.out, below_draws hB3 _⟩
            case measure => simp [RowKit.intOf]; omega
        | false =>
          have hcut := fun w => YtcenfckjkboabaaGreatDoor.cut_any S xa xb xc xd w (by omega)
          have hp2 : Chg.places S ⟨false, xa, xb, xc, xd, X⟩ = YtcenfckjkboabaaGreatDoor.cutP S xa xb xc xd := hpl
          rw [hp2] at hin
          obtain ⟨C, hC⟩ : ∃ C, YtcenfckjkboabaaGreatDoor.cutP S xa xb xc xd = C := ⟨_, rfl⟩
          rw [hC] at hp2 hin
          simp only [hC] at hcut
          obtain ⟨A, B, E⟩ := C
          simp only at hcut hin
          obtain ⟨i1, i2, i3, i4⟩ := hin
          clear hpl hC
          rcases i4 with rfl | rfl
          · obtain ⟨f, rfl⟩ : ∃ f : Nat, A = f := ⟨A.toNat, by omega⟩
            obtain ⟨t, rfl⟩ : ∃ t : Nat, B = t := ⟨B.toNat, by omega⟩
            have hlong := fun h => HK4.out _ _ hvv hp2 h
            have hok := fun h => HK1.out _ _ hvv hp2 h
            clear hp2
            by_cases hl : (65536 : Int) < (S.size : Int) - ((t : Int) - (f : Int)) + (X.size : Int)
            · have hfin := HK3.out _ (hlong hl) (by decide)
              cases hfin
              clear hlong hok hvv
              go_wp2_with (first
                | (go_at_call 101; refine hval.mono ?_; rintro e w3 ⟨rfl, hb3⟩; obtain ⟨b0, b1, b2, b3, b4, b5⟩ := hbox w3 hb3)
                | (go_at_call 102; refine (hcut _).mono ?_; rintro e w4 ⟨rfl, hb4⟩; obtain ⟨d0, d1, d2, d3, d4, d5⟩ := hbox w4 (hb3.trans (hb4.mono hb3.size))))
              go_ret2
              exact ⟨rfl, below_box hB hzB (hb3.trans (hb4.mono hb3.size))⟩
            · have HF := Lib.hid (HK2.out _ (hok hl))
              have HZ := Lib.hid (stepV_size (hok hl))
              clear hlong hok hvv
              go_wp2_with (first
                | (go_at_call 101; refine hval.mono ?_; rintro e w3 ⟨rfl, hb3⟩; obtain ⟨b0, b1, b2, b3, b4, b5⟩ := hbox w3 hb3)
                | (go_at_call 102; refine (hcut _).mono ?_; rintro e w4 ⟨rfl, hb4⟩; obtain ⟨d0, d1, d2, d3, d4, d5⟩ := hbox w4 (hb3.trans (hb4.mono hb3.size)); have hB4 := below_box hB hzB (hb3.trans (hb4.mono hb3.size))))
              go_quiet (fail)
              go_wp2
              go_roundw
              case rel => exact ⟨k + 1, _, by go_num, by omega, rfl, by have := HZ.out; omega, HF.out, below_draws hB4 _⟩
              case measure => simp [RowKit.intOf]; omega
          · have hfin := HK3.out _ (HK5.out _ _ _ hvv hp2 (by decide)) (by decide)
            cases hfin
            clear hp2 hvv
            go_wp2_with (first
              | (go_at_call 101; refine hval.mono ?_; rintro e w3 ⟨rfl, hb3⟩; obtain ⟨b0, b1, b2, b3, b4, b5⟩ := hbox w3 hb3)
              | (go_at_call 102; refine (hcut _).mono ?_; rintro e w4 ⟨rfl, hb4⟩))
            go_ret2
            exact ⟨rfl, below_box hB hzB (hb3.trans (hb4.mono hb3.size))⟩
    · have hd : l.drop k = [] := List.drop_eq_nil_of_le (by have := HN.out; omega)
      rw [hd] at hr
      cases hr
      go_wp2
      go_ret2
      exact ⟨rfl, hB⟩
end Go.Proofs.Dc
/- D8: docs.Change. -/
namespace Go.Proofs.Dc
open Go.RowKit Go.Proofs Go.Lib Go.Maps

def textB (d : Doc) : ByteArray := ⟨d.text.toArray⟩
/-- what Change answers -/
def chgE (L : List Doc) (u : List UInt8) (v : Int) (cs : List Chg) : Int :=
  match getD? L u with
  | none => 5
  | some d => if v ≤ d.ver then 18 else (afterV (textB d) cs).2
def chgL (L : List Doc) (u : List UInt8) (v : Int) (cs : List Chg) : List Doc :=
  match getD? L u with
  | none => L
  | some d => if v ≤ d.ver then L else if (afterV (textB d) cs).2 = 0 then putD ⟨u, (afterV (textB d) cs).1.data.toList, v⟩ L else L
set_option maxRecDepth 100000 in
set_option maxHeartbeats 4000000 in
theorem change_any (w : World) (hT : Tabs w) (b M : Nat) (L : List Doc) (h : DV w b M L) (_hM : 5 < M) (u : ByteArray) (v : Int) (p : Option Addr) (n c : Nat) (cs : List Chg) (hu : u.size ≤ 1000000) (hn : n = cs.length) (hn2 : n ≤ maxLen) (hI : ChgsAt w p cs) (hL : L.length ≤ 1000000) (hS : ∀ d ∈ L, d.text.length ≤ 65536) (hXs : ∀ x ∈ cs, x.text.size ≤ 1000000) :
    Calls Tryz.prog 43 #[.pointer (some ⟨b, 0, none⟩), .string u, .int .i64 v, .slice p n c] w fun e w' => e = .returned (.int .i64 (chgE L u.data.toList v cs)) ∧ DV w' b M (chgL L u.data.toList v cs) ∧ w.grownBy w' (some M) := by
  have hi := is_any w b M L h
  have hlook := h.look u (by unfold maxLen; omega)
  have hput := fun w t (h : DV w b M L) => h.put u t v (by unfold maxLen; omega) (by unfold maxLen; omega)
  have hcell := h.cell
  have H := Lib.hid h
  have hlt := h.lt
  have HI := Lib.hid hI
  clear h hI
  cases hg : getD? L u.data.toList with
  | none =>
    have e1 : chgE L u.data.toList v cs = 5 := by unfold chgE; rw [hg]
    have e2 : chgL L u.data.toList v cs = L := by unfold chgL; rw [hg]
    rw [e1, e2]
    rw [hg] at hlook
    have hl : (Instr.lookup 81 (.map (some M)) (.string u) true).run Tryz.prog w = .ok (.tuple #[.agg #[.string ⟨#[]⟩, .string ⟨#[]⟩, .int .i64 0], .bool false]) w := hlook
    have HF : Hid (DV (w.alloc (.cells #[.string ⟨#[]⟩, .string ⟨#[]⟩, .int .i64 0] 53)) b M L) := Lib.hid (H.out.below ((Below.refl w.heap.size w).alloc (Nat.le_refl _) _))
    clear hlook e1 e2 hg hn
    go_enter Tryz.func43, Tryz.ntmps43
    go_wp2_with (first
      | (go_at_call 63; refine hi.mono ?_; rintro e w1 ⟨rfl, hw⟩; subst w1))
    go_ret
    exact ⟨rfl, HF.out, gb_below ((Below.refl _ w).alloc (Nat.le_refl _) _)⟩
  | some d =>
    have hdm := get_mem hg
    have hds := hS d hdm.1
    have hx : (Instr.lookup 81 (.map (some M)) (.string u) true).run Tryz.prog w = .ok (.tuple #[.agg #[.string ⟨d.uri.toArray⟩, .string (textB d), .int .i64 d.ver], .bool true]) w := by rw [hg] at hlook; exact hlook
    obtain ⟨U, hU⟩ : ∃ U : ByteArray, (⟨d.uri.toArray⟩ : ByteArray) = U := ⟨_, rfl⟩
    obtain ⟨T, hTx⟩ : ∃ T : ByteArray, textB d = T := ⟨_, rfl⟩
    have hTs : T.size ≤ 65536 := by rw [← hTx]; unfold textB; rw [size_mk]; exact hds
    obtain ⟨E, hE⟩ : ∃ E, chgE L u.data.toList v cs = E := ⟨_, rfl⟩
    obtain ⟨LL, hLL⟩ : ∃ l, chgL L u.data.toList v cs = l := ⟨_, rfl⟩
    rw [hE, hLL]
    unfold chgE at hE
    unfold chgL at hLL
    rw [hg] at hE hLL
    simp only [hTx] at hE hLL
    rw [hU, hTx] at hx
    obtain ⟨V, hV⟩ : ∃ V, d.ver = V := ⟨_, rfl⟩
    rw [hV] at hE hLL hx
    have bA : Below w.heap.size w (w.alloc (.cells #[.string U, .string T, .int .i64 V] 53)) := (Below.refl _ _).alloc (Nat.le_refl _) _
    have H2 : Hid (DV (w.alloc (.cells #[.string U, .string T, .int .i64 V] 53)) b M L) := Lib.hid (H.out.below bA)
    have haf := after_any (w.alloc (.cells #[.string U, .string T, .int .i64 V] 53)) (hT.below bA) T (by omega) p n c cs hn hn2 (HI.out.below bA) hXs
    clear hg hlook hdm hds hU hTx hV hn
    have HE := Lib.hid hE
    have HLL := Lib.hid hLL
    clear hE hLL
    by_cases hv : v ≤ V
    · have he : E = 18 := by rw [← HE.out, if_pos hv]
      have hl : LL = L := by rw [← HLL.out, if_pos hv]
      subst he hl
      clear HE HLL haf
      go_enter Tryz.func43, Tryz.ntmps43
      go_wp2_with (first
        | (go_at_call 63; refine hi.mono ?_; rintro e w1 ⟨rfl, hw⟩; subst w1))
      go_ret
      exact ⟨rfl, H2.out, gb_below bA⟩
    · have he : E = (afterV T cs).2 := by rw [← HE.out, if_neg hv]
      have hl : LL = if (afterV T cs).2 = 0 then putD ⟨u.data.toList, (afterV T cs).1.data.toList, v⟩ L else L := by rw [← HLL.out, if_neg hv]
      obtain ⟨R1, hR1⟩ : ∃ R, (afterV T cs).1 = R := ⟨_, rfl⟩
      obtain ⟨R2, hR2⟩ : ∃ R, (afterV T cs).2 = R := ⟨_, rfl⟩
      rw [hR1, hR2] at haf
      rw [hR1, hR2] at hl
      rw [hR2] at he
      clear HE HLL hR1 hR2
      subst he
      have hput2 := fun w h => hput w R1 h
      clear hput
      by_cases h0 : E = 0
      · rw [if_pos h0] at hl
        subst h0 hl
        go_enter Tryz.func43, Tryz.ntmps43
        go_wp2_with (first
          | (go_at_call 63; refine hi.mono ?_; rintro e w1 ⟨rfl, hw⟩; subst w1)
          | (go_at_call 81; refine haf.mono ?_; rintro e w2 ⟨rfl, hb2⟩
             have h3 := H2.out.below hb2
             have c3 := h3.cell
             have b3 := bA.trans (hb2.mono bA.size)
             obtain ⟨w4, hrun4, hd4, hg4⟩ := hput2 _ h3
             have HD4 := Lib.hid hd4
             have HG4 := Lib.hid hg4
             clear hd4 hg4 h3))
        go_ret
        exact ⟨rfl, HD4.out, (gb_below b3).trans HG4.out⟩
      · rw [if_neg h0] at hl
        subst hl
        have u0 : (E == 0) = false := by simpa using h0
        clear h0
        go_enter Tryz.func43, Tryz.ntmps43
        go_wp2_with (first
          | (go_at_call 63; refine hi.mono ?_; rintro e w1 ⟨rfl, hw⟩; subst w1)
          | (go_at_call 81; refine haf.mono ?_; rintro e w2 ⟨rfl, hb2⟩
             have b3 := bA.trans (hb2.mono bA.size)
             have H3 := Lib.hid (H2.out.below hb2)))
        go_ret
        exact ⟨rfl, H3.out, gb_below b3⟩
end Go.Proofs.Dc
/- D9: The laws' uri, cut, opened, is, works. -/
namespace Go.Proofs.Dc
open Go.RowKit Go.Proofs Go.Lib Go.Maps

def uriB : ByteArray := ⟨#[102, 105, 108, 101, 58, 47, 47, 47, 103, 101, 111, 47, 97, 46, 103, 111]⟩
def uriL : List UInt8 := [102, 105, 108, 101, 58, 47, 47, 47, 103, 101, 111, 47, 97, 46, 103, 111]
theorem uri_any (w : World) : Calls Tryz.prog 42 #[] w fun e w' => e = .returned (.string uriB) ∧ w = w' := by
  unfold uriB
  go_enter Tryz.func42, Tryz.ntmps42
  go_wp2
  go_ret
  exact ⟨rfl, rfl⟩
def chgVal (x : Chg) : Value := .agg #[.bool x.whole, .int .i64 x.a, .int .i64 x.b, .int .i64 x.c, .int .i64 x.d, .string x.text]
def cutC (f t : Int) (x : ByteArray) : Chg := ⟨false, 0, f, 0, t, x⟩
set_option maxRecDepth 100000 in
theorem lawcut_any (f t : Int) (x : ByteArray) (w : World) : Calls Tryz.prog 44 #[.int .i64 f, .int .i64 t, .string x] w fun e w' => e = .returned (.agg #[.bool false, .int .i64 0, .int .i64 f, .int .i64 0, .int .i64 t, .string x]) ∧ Below w.heap.size w w' := by
  go_enter Tryz.func44, Tryz.ntmps44
  go_wp2
  exact bodyPost_ret (v := .agg #[.bool false, .int .i64 0, .int .i64 f, .int .i64 0, .int .i64 t, .string x]) (by simp [results, Tryz.results44, go_sem]) rfl ⟨rfl, (Below.refl _ _).alloc (Nat.le_refl _) _⟩
def xyD : Doc := ⟨uriL, [120, 121], 5⟩
def wxzD : Doc := ⟨uriL, [119, 120, 122], 6⟩
theorem open0 : openE [] uriL [120, 121] = 0 := by decide +kernel
theorem open0L : openL [] uriL [120, 121] 5 = [xyD] := by decide +kernel
theorem open1 : openE [xyD] uriL [] = 6 := by decide +kernel
theorem open1L : openL [xyD] uriL [] 6 = [xyD] := by decide +kernel
theorem chg1 : chgE [xyD] uriL 6 [cutC 1 2 ⟨#[122]⟩, cutC 0 0 ⟨#[119]⟩] = 0 := by decide +kernel
theorem chg1L : chgL [xyD] uriL 6 [cutC 1 2 ⟨#[122]⟩, cutC 0 0 ⟨#[119]⟩] = [wxzD] := by decide +kernel
set_option maxRecDepth 100000 in
set_option maxHeartbeats 1000000 in
theorem opened_any (w : World) (hT : Tabs w) : Calls Tryz.prog 39 #[] w fun e w' => ∃ b M, e = .returned (.pointer (some ⟨b, 0, none⟩)) ∧ DV w' b M [xyD] ∧ Below w.heap.size w w' ∧ w.heap.size ≤ b ∧ w.heap.size ≤ M := by
  have ho := fun w1 b M h1 h2 h3 => open_any w1 h1 b M [] h2 h3 uriB ⟨#[120, 121]⟩ 5 (by decide) (by decide) (by decide)
  simp only [show uriB.data.toList = uriL from rfl, open0, open0L] at ho
  have hu := uri_any
  have hlo := hT.lo
  generalize uriB = X at ho hu
  go_enter Tryz.func39, Tryz.ntmps39
  go_wp2_with (first
    | (go_at_call 11; refine (new_any _).mono ?_; rintro e w1 ⟨b, M, rfl, hd1, hb1, hbb, hMM⟩)
    | (go_at_call 42; refine (hu _).mono ?_; rintro e w2 ⟨rfl, hw⟩; subst w2)
    | (go_at_call 41; refine (ho _ b M (hT.below hb1) hd1 (by omega)).mono ?_; rintro e w3 ⟨rfl, hd3, hg3⟩))
  go_ret
  exact ⟨b, M, rfl, hd3, hb1.trans (below_gb hMM hb1.size hg3), hbb, hMM⟩
end Go.Proofs.Dc
/- D10: The laws' is, works. -/
namespace Go.Proofs.Dc
open Go.RowKit Go.Proofs Go.Lib Go.Maps

set_option maxRecDepth 100000 in
set_option maxHeartbeats 1000000 in
theorem isdoc_any (w : World) (b M : Nat) (L : List Doc) (h : DV w b M L) (T : ByteArray) (v : Int) (hg : getD? L uriL = some ⟨uriL, T.data.toList, v⟩) : Calls Tryz.prog 40 #[.pointer (some ⟨b, 0, none⟩), .string T, .int .i64 v] w fun e w' => e = .returned (.bool true) ∧ Below w.heap.size w w' := by
  have hget := get_any w b M L h uriB (by decide)
  rw [show uriB.data.toList = uriL from rfl, hg] at hget
  have hget2 : Calls Tryz.prog 61 #[.pointer (some ⟨b, 0, none⟩), .string uriB] w fun e w' => e = .returned (.tuple #[.agg #[.string uriB, .string T, .int .i64 v], .bool true]) ∧ Below w.heap.size w w' := hget
  have hu := uri_any
  clear hget hg h
  generalize uriB = X at *
  go_enter Tryz.func40, Tryz.ntmps40
  go_wp2_with (first
    | (go_at_call 42; refine (hu _).mono ?_; rintro e w2 ⟨rfl, hw⟩; subst w2)
    | (go_at_call 61; refine hget2.mono ?_; rintro e w3 ⟨rfl, hb3⟩
       have bV : Below w.heap.size w (w3.alloc (.cells #[.string X, .string T, .int .i64 v] 53)) := hb3.trans ((Below.refl _ _).alloc hb3.size _)))
  have hu2 : ∀ n, Calls Tryz.prog 42 #[] ((w3.alloc (.cells #[.string X, .string T, .int .i64 v] 53)).drewN n) fun e w'' => e = .returned (.string X) ∧ ∃ m, w'' = (w3.alloc (.cells #[.string X, .string T, .int .i64 v] 53)).drewN m := fun n => (hu _).mono fun e w' h => ⟨h.1, n, h.2.symm⟩
  go_big_quiet (exact hu2 _)
  go_wp2
  go_ret
  exact ⟨rfl, below_draws bV _⟩
theorem chgs_two' (W : World) (k : Nat) (x y : Chg) (h : W.heap[k]? = some (.cells #[.bool x.whole, .int .i64 x.a, .int .i64 x.b, .int .i64 x.c, .int .i64 x.d, .string x.text, .bool y.whole, .int .i64 y.a, .int .i64 y.b, .int .i64 y.c, .int .i64 y.d, .string y.text] 78 (0, 0))) (hx : x.text.size ≤ maxLen) (hy : y.text.size ≤ maxLen) : ChgsAt W (some ⟨k, 0, none⟩) [x, y] := by
  have hk := (Array.getElem?_eq_some_iff.1 h).1
  intro i z hz
  refine ⟨_, rfl, ?_⟩
  match i, hz with
  | 0, hz =>
    obtain rfl := Option.some.inj hz
    refine ⟨?_, ?_, ?_, ?_, ?_, ?_, hx, by simpa [Addr.add] using hk⟩ <;> simp [World.cell?, Addr.add, h]
  | 1, hz =>
    obtain rfl := Option.some.inj hz
    refine ⟨?_, ?_, ?_, ?_, ?_, ?_, hy, by simpa [Addr.add] using hk⟩ <;> simp [World.cell?, Addr.add, h]
  | i + 2, hz => cases hz
theorem chgs_two (w : World) (x y : Chg) (hx : x.text.size ≤ maxLen) (hy : y.text.size ≤ maxLen) : ChgsAt (w.alloc (.cells #[.bool x.whole, .int .i64 x.a, .int .i64 x.b, .int .i64 x.c, .int .i64 x.d, .string x.text, .bool y.whole, .int .i64 y.a, .int .i64 y.b, .int .i64 y.c, .int .i64 y.d, .string y.text] 78)) (some ⟨w.heap.size, 0, none⟩) [x, y] :=
  chgs_two' _ _ _ _ (World.alloc_heap_new w _) hx hy
theorem get_xy : getD? [xyD] uriL = some ⟨uriL, [120, 121], 5⟩ := by decide +kernel
theorem get_wxz : getD? [wxzD] uriL = some ⟨uriL, [119, 120, 122], 6⟩ := by decide +kernel
set_option maxRecDepth 100000 in
set_option maxHeartbeats 4000000 in
theorem works_any (w : World) (hT : Tabs w) : Calls Tryz.prog 10 #[] w fun e w' => e = .returned (.bool true) ∧ Below w.heap.size w w' := by
  have ho := fun w1 b M h1 h2 h3 => open_any w1 h1 b M [xyD] h2 h3 uriB ⟨#[]⟩ 6 (by decide) (by decide) (by decide)
  simp only [show uriB.data.toList = uriL from rfl, open1, open1L] at ho
  have hc := fun w1 b M h1 h2 h3 p c h4 => change_any w1 h1 b M [xyD] h2 h3 uriB 6 p 2 c [cutC 1 2 ⟨#[122]⟩, cutC 0 0 ⟨#[119]⟩] (by decide) rfl (by decide) h4 (by decide) (by decide) (by decide)
  simp only [show uriB.data.toList = uriL from rfl, chg1, chg1L] at hc
  have h2c := fun w => chgs_two w (cutC 1 2 ⟨#[122]⟩) (cutC 0 0 ⟨#[119]⟩) (by decide) (by decide)
  have g1 := fun w b M h => isdoc_any w b M [xyD] h ⟨#[120, 121]⟩ 5 get_xy
  have g2 := fun w b M h => isdoc_any w b M [wxzD] h ⟨#[119, 120, 122]⟩ 6 get_wxz
  have hop := opened_any w hT
  have hu := uri_any
  have hlo := hT.lo
  generalize uriB = X at ho hu hc
  generalize [xyD] = L1 at *
  generalize [wxzD] = L2 at *
  generalize [cutC 1 2 ⟨#[122]⟩, cutC 0 0 ⟨#[119]⟩] = C at *
  unfold cutC at h2c
  simp only at h2c
  go_enter Tryz.func10, Tryz.ntmps10
  go_wp2_with (first
    | (go_at_call 39; refine hop.mono ?_; rintro e w1 ⟨b, M, rfl, hd1, hb1, hbb, hMM⟩)
    | (have GU := hd7; clear GU; go_at_call 40; refine (g2 _ b M hd7).mono ?_; rintro e w8 ⟨rfl, hb8⟩)
    | (go_at_call 40; refine (g1 _ b M hd1).mono ?_; rintro e w2 ⟨rfl, hb2⟩; have hd2 := hd1.below hb2; have B2 := hb1.trans (hb2.mono hb1.size))
    | (go_at_call 42; refine (hu _).mono ?_; rintro e wu ⟨rfl, hw⟩; subst wu)
    | (go_at_call 41; refine (ho _ b M (hT.below B2) hd2 (by omega)).mono ?_; rintro e w3 ⟨rfl, hd3, hg3⟩; have B3 := B2.trans (below_gb hMM B2.size hg3))
    | (have GU := hd4; clear GU; go_at_call 44; refine (lawcut_any _ _ _ _).mono ?_; rintro e w5 ⟨rfl, hb5⟩; have hd5 := hd4.below hb5; have B5 := B4.trans (hb5.mono B4.size))
    | (go_at_call 44; refine (lawcut_any _ _ _ _).mono ?_; rintro e w4 ⟨rfl, hb4⟩; have hd4 := hd3.below hb4; have B4 := B3.trans (hb4.mono B3.size))
    | (go_at_call 43; refine (hc _ b M (hT.below (B5.trans ((Below.refl _ _).alloc B5.size _))) (hd5.below ((Below.refl _ _).alloc (Nat.le_refl _) _)) (by omega) _ _ (h2c _)).mono ?_; rintro e w7 ⟨rfl, hd7, hg7⟩; have B7 := (B5.trans ((Below.refl _ _).alloc B5.size _)).trans (below_gb hMM (Nat.le_trans B5.size (by simp)) hg7)))
  go_ret
  exact ⟨rfl, B7.trans (hb8.mono B7.size)⟩
end Go.Proofs.Dc
/- D14: maps.Values at open documents: the iterator hands its caller's body each document, once. -/
namespace Go.Proofs.Dc
open Go.RowKit Go.Proofs Go.Lib Go.Maps Go.Shelf

attribute [local go_sem] Oper.semAt_some

theorem docEl_inv2 {v : Value} {y : DataW Unit × List MemPlace} (h : docEl v = some y) : ∃ d, v = docVal d ∧ y = (docD d, []) := by
  unfold docEl at h
  split at h
  · rename_i a
    split at h
    · rename_i u t n he
      have ha : a = #[.string u, .string t, .int .i64 n] := Array.toList_inj.1 he
      exact ⟨⟨u.data.toList, t.data.toList, n⟩, by rw [ha]; rfl, (Option.some.inj h).symm⟩
    · cases h
  · cases h
theorem docD_inj {a b : Doc} (h : docD a = docD b) : a = b := by
  unfold docD at h
  simp only [DataW.agg.injEq, List.cons.injEq, DataW.lit.injEq, Lit.string.injEq, Lit.int.injEq, true_and, and_true] at h
  obtain ⟨h1, h2, h3⟩ := h
  cases a; cases b
  simp_all
/-- what has come -/
def Came (L : List Doc) (left : Lit → Bool) (ds : List Doc) : Prop := Collected (DD L) left (ds.map (·.uri)) ∧ ∀ d ∈ ds, d ∈ L
theorem came_step {L : List Doc} {left : Lit → Bool} {ds : List Doc} {x : List UInt8} {c : Doc} (h : Came L left ds) (hlk : left (.string x) = true) (hat : ∀ zd, (DD L).atKey (.string x) zd = docD c) : Came L (fun z => left z && !z.sameKey (.string x)) (ds ++ [c]) := by
  have hc : getD? L x = some c := by
    have h1 := hat .nil
    rw [DD_at] at h1
    cases hg : getD? L x with
    | none => rw [hg] at h1; cases h1
    | some d => rw [hg] at h1; rw [docD_inj h1]
  obtain ⟨hm, hu⟩ := get_mem hc
  refine ⟨?_, fun d hd => ?_⟩
  · rw [List.map_append, List.map_singleton, hu]
    exact h.1.step hlk hat
  · rcases List.mem_append.1 hd with hd | hd
    · exact h.2 d hd
    · rw [List.mem_singleton.1 hd]; exact hm
set_option maxRecDepth 100000 in
set_option maxHeartbeats 4000000 in
theorem values1_in (n : Nat) (hn : 1 ≤ n) (l Bm b : Nat) (L : List Doc) (hO : Ord L) (J Jx : List Doc → World → Prop)
    (hY : ∀ pre x W, J pre W → pre.length < L.length → YieldAt Fence.wide (n - 1) Tryz.prog l #[docVal x] W fun e W' =>
      (e = .returned (.bool true) ∧ J (pre ++ [x]) W' ∧ KeepsWalks W W') ∨ (e = .returned (.bool false) ∧ Jx (pre ++ [x]) W'))
    (W : World) (hJ : AbidesFrom W.heap.size J) (hm : W.cell? ⟨Bm, 0, none⟩ = some (.map (some b))) (hown : W.ownsMap Tryz.prog 9 docEl b L.length (DD L)) (h0 : J [] W) :
    CallsIn Fence.wide n Tryz.prog 113 #[.func (.yield l) #[] #[], .pointer (some ⟨Bm, 0, none⟩)] W fun e W' => (∃ v, e = .returned v) ∧
      ((∃ xs : List Doc, xs.Perm L ∧ J xs W') ∨ (∃ pre : List Doc, True ∧ Jx pre W')) := by
  refine callsIn_of_wp Tryz.func113 rfl trivial ?_ rfl
  simp only [Tryz.ntmps113, List.size_toArray, List.length_cons, List.length_nil, Nat.reduceAdd, Nat.reduceSub, Array.replicate_succ, Array.replicate_zero, List.push_toArray, List.append_toArray, List.nil_append, List.cons_append]
  gi_wp2_with (first
    | (gi_at_range; refine wpListIn_range_own _ rfl _ 81 rfl 9 53 law9 Tryz.underlying81 _ b L.length _ rfl hown ?_; intro w0 hrg0 hg0 hs0)
    | gi_in)
  go_frame
  gi_loopw [4] (fun _ wr => ∃ (left : Lit → Bool) (cnt : Nat) (ds : List Doc), wr.ranges Tryz.prog 9 docEl b W.heap.size L.length (DD L) left cnt ∧ ds.length + cnt ≤ L.length ∧ Came L left ds ∧ J ds wr)
    (fun _ wr => wr.rangeLeft b W.heap.size)
  case atStart =>
    exact ⟨_, _, [], hrg0, by rw [DD_size]; simp, ⟨Collected.start (DD L), fun d hd => by cases hd⟩, hJ [] W w0 none h0 hg0 (fun r e => by cases e)⟩
  case round =>
    obtain ⟨left, cnt, ds, hrg, hcs, hC, hJs⟩ := hrel
    gi_wp2_with (first
      | (gi_at_next; refine wpListIn_next_ranges _ rfl _ rfl 9 law9 docEl encStr docVal (fun key kl hk => by obtain ⟨x, hx, _⟩ := Maps.keyOf_str Tryz.underlying9 hk; exact ⟨x, hx⟩) (fun v y hy => by obtain ⟨d, h1, _⟩ := docEl_inv2 hy; exact ⟨d, h1⟩) b W.heap.size L.length _ _ _ rfl hrg ?_ ?_)
      | gi_in)
    · intro hc0 hl0
      gi_wp2
      go_end0
      exact ⟨⟨_, rfl⟩, .inl ⟨ds, perm_of_keys hO hC.2 (hC.1.perm hown law9 Tryz.underlying9 hl0), hJs⟩⟩
    · intro x c kl yd yp w2 cnt2 hkey hlk hv hat hrg2 hlt hg2 hs2 hen
      obtain ⟨x', ex, rfl, _⟩ := Maps.keyOf_str Tryz.underlying9 hkey
      obtain rfl : x = x' := encStr_inj ex
      have hcc : docEl (docVal c) = some (docD c, []) := rfl
      have hat2 : ∀ zd, (DD L).atKey (.string x) zd = docD c := fun zd => by rw [hat zd]; rw [hcc] at hv; exact (congrArg Prod.fst (Option.some.inj hv)).symm
      have hC2 := came_step hC hlk hat2
      have hJ2 : J ds w2 := hJ ds wr w2 (some W.heap.size) hJs hg2 (fun r e => by cases e; exact ⟨Nat.le_refl _, hrg.iter_walk⟩)
      have hJ3 : J ds (w2.alloc (.cells #[.string ⟨c.uri.toArray⟩, .string ⟨c.text.toArray⟩, .int .i64 c.ver] 53)) := hJ ds w2 _ none hJ2 (World.grownBy_alloc w2 _ none) (fun r e => by cases e)
      obtain ⟨fn, tmps, assign, body, hy, hR⟩ := hY ds c _ hJ3 (by omega)
      have hrg2b := hrg2.alloc (.cells #[.string ⟨c.uri.toArray⟩, .string ⟨c.text.toArray⟩, .int .i64 c.ver] 53)
      clear hs2 hcc hv hat hat2 hkey ex
      unfold docVal at hen hy
      gi_wp2
      refine hR.mono ?_
      rintro e W3 (⟨rfl, hJ4, hk3⟩ | ⟨rfl, hJx3⟩)
      · gi_wp2
        have hrg3 := hrg2b.of_walks hk3
        go_roundw
        case rel => exact ⟨_, cnt2, ds ++ [c], hrg3, by simp; omega, hC2, hJ4⟩
        case measure => rw [hrg3.left_eq, hrg.left_eq]; exact hlt
      · gi_wp2
        refine bodyPost_ret (results_none rfl _ _ _) rfl ?_
        exact ⟨⟨_, rfl⟩, .inr ⟨ds ++ [c], trivial, hJx3⟩⟩
/-- maps.Values hands back a value that gives the documents -/
theorem values_stops (n : Nat) (hn : 1 ≤ n) (Bm b : Nat) (L : List Doc) (hO : Ord L) (w : World) (hBm : Bm < w.heap.size) (hm : w.cell? ⟨Bm, 0, none⟩ = some (.map (some b))) (hown : w.ownsMap Tryz.prog 9 docEl b L.length (DD L)) :
    SeqStopsK Fence.wide n Tryz.prog 113 #[.pointer (some ⟨Bm, 0, none⟩)] (fun d => #[docVal d]) KeepsWalks (fun xs => xs.Perm L) (fun _ => True) L.length w := fun l J Jx W hW hJ _ hY h0 => by
  have hown' : W.ownsMap Tryz.prog 9 docEl b L.length (DD L) := hown.kept (row := none) (gb_below hW) (by simp)
  exact values1_in n hn l Bm b L hO J Jx hY W hJ ((hW.cell (p := ⟨Bm, 0, none⟩) hBm).trans hm) hown' h0
set_option maxHeartbeats 1000000 in
theorem values_any (M : Nat) (w : World) : Calls Tryz.prog 93 #[.map (some M)] w fun e w' => e = .returned (.func (.func 113) #[] #[.pointer (some ⟨w.heap.size, 0, none⟩)]) ∧ w' = w.alloc (.cells #[.map (some M)] 81) := by
  go_enter Tryz.func93, Tryz.ntmps93
  go_wp2
  go_ret
  exact ⟨rfl, rfl⟩
end Go.Proofs.Dc
/- D15: slices.AppendSeq, slices.Collect at documents. -/
namespace Go.Proofs.Dc
open Go.RowKit Go.Proofs Go.Lib Go.Maps Go.Shelf

attribute [local go_sem] Oper.semAt_some

/-- a document's cells -/
def docCell (d : Doc) : List Value := [.string ⟨d.uri.toArray⟩, .string ⟨d.text.toArray⟩, .int .i64 d.ver]
def docCells (l : List Doc) : List Value := l.flatMap docCell
theorem docCells_snoc (l : List Doc) (d : Doc) : docCells (l ++ [d]) = docCells l ++ docCell d := by simp [docCells]
theorem docCells_length (l : List Doc) : (docCells l).length = l.length * 3 := by
  induction l with
  | nil => rfl
  | cons j t ih =>
    show (docCell j ++ docCells t).length = _
    rw [List.length_append, ih]
    simp [docCell]; omega
theorem docCell_ones (d : Doc) : ∀ u ∈ docCell d, u.oneCell' = true := by
  intro u hu
  simp [docCell] at hu
  rcases hu with rfl | rfl | rfl <;> rfl
theorem infoP {t : TypeId} {z : Option Value} {n m : Nat} (h : (Tryz.prog.info? t).map (fun i => (i.zero, i.size, i.bytes)) = some (z, n, m)) : ∃ i, Tryz.prog.info? t = some i ∧ i.zero = z ∧ i.size = n ∧ i.bytes = m := by
  cases e : Tryz.prog.info? t with
  | none => simp [e] at h
  | some i => simp [e] at h; exact ⟨i, rfl, h.1, h.2.1, h.2.2⟩
theorem info38 : (Tryz.prog.info? 53).map (fun i => (i.zero, i.size, i.bytes)) = some (some (.agg #[.string ⟨#[]⟩, .string ⟨#[]⟩, .int .i64 0]), 3, 40) := by kernel_rfl
/-- a document in a block of its own -/
def DocAt (W : World) (B : Nat) (d : Doc) : Prop := W.heap[B]? = some (.cells #[.string ⟨d.uri.toArray⟩, .string ⟨d.text.toArray⟩, .int .i64 d.ver] 53 (0, 0))
theorem DocAt.cells {W : World} {B : Nat} {d : Doc} (h : DocAt W B d) : W.cell? ⟨B, 0, none⟩ = some (.string ⟨d.uri.toArray⟩) ∧ W.cell? ⟨B, 1, none⟩ = some (.string ⟨d.text.toArray⟩) ∧ W.cell? ⟨B, 2, none⟩ = some (.int .i64 d.ver) := by
  unfold DocAt at h
  refine ⟨?_, ?_, ?_⟩ <;> simp [World.cell?, h]
theorem DocAt.lt {W : World} {B : Nat} {d : Doc} (h : DocAt W B d) : B < W.heap.size := (Array.getElem?_eq_some_iff.1 h).1
theorem newCells (w : World) (d : Doc) : ∀ (j : Nat) u, (docCell d)[j]? = some u → (w.alloc (.cells #[.string ⟨d.uri.toArray⟩, .string ⟨d.text.toArray⟩, .int .i64 d.ver] 53)).cell? ((⟨w.heap.size, 0, none⟩ : Addr).add j) = some u := by
  intro j u hj
  have hb : DocAt (w.alloc (.cells #[.string ⟨d.uri.toArray⟩, .string ⟨d.text.toArray⟩, .int .i64 d.ver] 53)) w.heap.size d := World.alloc_heap_new w _
  obtain ⟨c0, c1, c2⟩ := hb.cells
  have hadd : (⟨w.heap.size, 0, none⟩ : Addr).add j = ⟨w.heap.size, j, none⟩ := by unfold Addr.add; split <;> simp_all
  rw [hadd]
  match j, hj with
  | 0, hj => rw [← Option.some.inj hj]; exact c0
  | 1, hj => rw [← Option.some.inj hj]; exact c1
  | 2, hj => rw [← Option.some.inj hj]; exact c2
  | j + 3, hj => simp [docCell] at hj
theorem ownsRow_succ3 {w : World} {base e : Nat} {v : Value} {k : Nat} {xs : List Value} (h : w.ownsRow base e 3 v (k + 1) xs) : ∃ g cap, v = .slice (some ⟨g, 0, none⟩) (k + 1) cap := by
  rcases h.2 with ⟨_, h0⟩ | ⟨g, cap, cur, h1, _⟩
  · omega
  · exact ⟨g, cap, h1⟩
/-- what the box of the slice holds -/
def ApI (w : World) (pre : List Doc) (W : World) : Prop := (∃ v, Boxed W w.heap.size 28 v ∧ W.ownsRow w.heap.size 53 3 v pre.length (docCells pre) ∧ (v = .slice none 0 0 ↔ pre = [])) ∧ Below w.heap.size w W
theorem apI_own (w : World) : OwnFrom (w.heap.size + 1) (ApI w) :=
  OwnFrom.and (Own.from (holdsRow_own w.heap.size w.heap.size 28 53 3 (fun pre => pre.length) docCells (fun pre v => (v = .slice none 0 0 ↔ pre = []))) _) (ownFrom_below (Nat.le_refl _) (by omega))
/-- where the loop's variable lies -/
def ApA (w : World) (sv : Value) (x : Doc) (a' : Go.Act) (W : World) : Prop := ∃ Bx, w.heap.size < Bx ∧ DocAt W Bx x ∧
  a' = { tmps := #[.slice none 0 0, sv, .pointer (some ⟨w.heap.size, 0, none⟩), undef, .slice none 0 0, .pointer (some ⟨Bx, 0, none⟩), sv, docVal x, undef, undef, undef, undef, undef], defers := [] }
set_option maxRecDepth 100000 in
set_option maxHeartbeats 4000000 in
theorem appendSeq_in (lb : Array Value) (L : List Doc) (hN : L.length ≤ 1000000) (w : World) (hseq : SeqStopsK Fence.wide 4 Tryz.prog 113 lb (fun d => #[docVal d]) KeepsWalks (fun xs => xs.Perm L) (fun _ => True) L.length w) :
    Calls Tryz.prog 124 #[.slice none 0 0, .func (.func 113) #[] lb] w fun e w' => ∃ (v : Value) (ds : List Doc), e = .returned v ∧ ds.Perm L ∧ w'.ownsRow w.heap.size 53 3 v ds.length (docCells ds) ∧ (v = .slice none 0 0 ↔ ds = []) ∧ Below w.heap.size w w' := by
  refine (callsIn_wide (n := 5)).1 ?_
  refine callsIn_of_wp_marks Tryz.func124 rfl trivial ?_ rfl
  simp only [Tryz.ntmps124, List.size_toArray, List.length_cons, List.length_nil, Nat.reduceAdd, Nat.reduceSub, Array.replicate_succ, Array.replicate_zero, List.push_toArray, List.append_toArray, List.nil_append, List.cons_append]
  gi_wp2
  obtain ⟨W0, hW0⟩ : ∃ W0, w.alloc (.cells #[.slice none 0 0] 28) = W0 := ⟨_, rfl⟩
  have hB0 : Below w.heap.size w W0 := by rw [← hW0]; exact (Below.refl _ w).alloc (Nat.le_refl _) _
  have hbx : Boxed W0 w.heap.size 28 (.slice none 0 0) := by rw [← hW0]; exact Boxed.new w 28 _
  have hsz : W0.heap.size = w.heap.size + 1 := by rw [← hW0]; simp
  rw [hW0]
  clear hW0
  refine wpIn_rangeFunc_ownH rfl (by omega) (gf := 113) (lb := lb) rfl trivial (enters_of Tryz.func113 (by kernel_rfl) rfl)
    hseq walksK_t walksK_b hB0 (fun _ => rfl) (ApI w) (fun _ _ _ => False)
    (OwnFrom.and (Own.from (holdsRow_own w.heap.size w.heap.size 28 53 3 (fun pre => pre.length) docCells (fun pre v => (v = .slice none 0 0 ↔ pre = []))) _) (ownFrom_below (Nat.le_refl _) (by omega)))
    (fun _ _ _ _ _ hs _ _ => hs)
    ⟨⟨_, hbx, ⟨rfl, .inl ⟨rfl, rfl⟩⟩, by simp⟩, hB0⟩
    (ApA w (.func (.func 113) #[] lb)) ?hAx ?assign ?body ?done ?stop
  case hAx =>
    rintro x a' _ A B row ⟨Bx, h1, h2, h3⟩ hg hr
    refine ⟨Bx, h1, (hg.block Bx h2.lt fun e => ?_).trans h2, h3⟩
    obtain ⟨_, o, ho, hc⟩ := hr Bx e.symm
    rw [show A.heap[Bx]? = _ from h2] at ho
    cases ho
    cases hc
  case assign =>
    rintro l pre x W K hi hK
    have hBW := hi.2
    unfold docVal
    gi_wp2
    exact hK _ _ ((KeepsOthers.alloc _ _).from _) (KeepsWalks.alloc _ _) ((apI_own w).alloc _ hi) ⟨W.heap.size, by have := hi.1; obtain ⟨v, hv, _⟩ := this; exact hv.lt, World.alloc_heap_new W _, rfl⟩
  case body =>
    rintro l pre x a' W hl ⟨r, hr⟩ ⟨⟨v, hv, hrow, hnil⟩, hB⟩ ⟨Bx, hBx, hd, rfl⟩ hlt
    obtain ⟨i0, hi, hz0, hz1, hz2⟩ := infoP info38
    obtain ⟨c0, c1, c2⟩ := hd.cells
    have hcv := hv.cell
    have hzB := hB.size
    gi_wp2_with (first
      | (gi_at_builtin; refine wpListIn_append_own _ rfl _ _ 28 rfl w.heap.size 53 i0 _ 3 40 Tryz.underlying28 hi hz0 hz1 hz2 rfl (by decide) _ _ _ rfl (hrow.alloc _) ⟨W.heap.size, 0, none⟩ 1 1 (docCell x) rfl rfl (newCells W x) (docCell_ones x) (by unfold maxLen; omega) (by omega) (by simp; omega) ?_; intro v' w1 hown' hgrow hnil'
         obtain ⟨g', cap', rfl⟩ := ownsRow_succ3 hown'
         obtain ⟨hv1, hv2, hr2, hk2, hb2⟩ := hv.appended (by decide) hrow hB.size (Nat.le_refl _) hown' hgrow
         have hc1 := hv1.cell
         have hf1 := hv1.frozen))
    refine ⟨hk2.from _, hk2.walks, ⟨_, hv2, ?_, by simp⟩, hB.trans hb2⟩
    rw [List.length_append, List.length_singleton, docCells_snoc]
    exact hr2
  case done =>
    rintro D ds W hD hS ⟨⟨v, hv, hrow, hnil⟩, hB⟩ hK
    have hcv := hv.cell
    gi_wp2
    refine ⟨by simp, .inl ⟨_, _, rfl, run_takeDeferred hK, ?_⟩⟩
    exact ⟨_, results_tmp rfl _ _ _, v, ds, rfl, hS, ownsRow_putObj hrow _ hK rfl, hnil, hB.trans (belowK_b (w := w) (Nat.le_refl _) W D _ _ (by omega) hK rfl rfl)⟩
  case stop =>
    rintro D c pre W hD _ h _
    exact h.elim
set_option maxHeartbeats 1000000 in
theorem collect_any (lb : Array Value) (L : List Doc) (hN : L.length ≤ 1000000) (w : World) (hseq : SeqStopsK Fence.wide 4 Tryz.prog 113 lb (fun d => #[docVal d]) KeepsWalks (fun xs => xs.Perm L) (fun _ => True) L.length w) :
    Calls Tryz.prog 111 #[.func (.func 113) #[] lb] w fun e w' => ∃ (v : Value) (ds : List Doc), e = .returned v ∧ ds.Perm L ∧ w'.ownsRow w.heap.size 53 3 v ds.length (docCells ds) ∧ (v = .slice none 0 0 ↔ ds = []) ∧ Below w.heap.size w w' := by
  have ha := appendSeq_in lb L hN w hseq
  go_enter Tryz.func111, Tryz.ntmps111
  go_wp2_with (first | (go_at_call 124; refine ha.mono ?_; rintro e w' ⟨v, ds, rfl, h1, h2, h3, h4⟩))
  go_ret
  exact ⟨v, ds, rfl, h1, h2, h3, h4⟩
end Go.Proofs.Dc
/- D16: cmp.Compare at texts; the documents' order; slices.SortedFunc; All. -/
namespace Go.Proofs.Dc
open Go.RowKit Go.Proofs Go.Lib Go.Maps Go.Shelf Go.Sort

theorem nan_any (x : ByteArray) (w : World) : Calls Tryz.prog 114 #[.string x] w fun e w' => e = .returned (.bool false) ∧ w = w' := by
  have h : (x.toList == x.toList) = true := by simp
  go_enter Tryz.func114, Tryz.ntmps114
  go_wp2
  go_ret
  exact ⟨rfl, rfl⟩
theorem less_before : ∀ a b : List UInt8, Op.bytesLess a b = bytesBefore a b
  | [], [] => rfl
  | [], _ :: _ => rfl
  | _ :: _, [] => rfl
  | a :: r, b :: s => by
    rw [Op.bytesLess, bytesBefore, less_before r s]
def cmpV (x y : List UInt8) : Int := if bytesBefore x y = true then -1 else if x = y then 0 else 1
theorem cmpV_lt (x y : List UInt8) : decide (cmpV x y < 0) = bytesBefore x y := by
  unfold cmpV
  cases bytesBefore x y with
  | true => rfl
  | false =>
    rw [if_neg (by decide)]
    split <;> rfl
theorem cmp_any (x y : ByteArray) (w : World) : Calls Tryz.prog 95 #[.string x, .string y] w fun e w' => e = .returned (.int .i64 (cmpV x.data.toList y.data.toList)) ∧ w = w' := by
  have hl := less_before x.toList y.toList
  rw [ByteArray.toList_eq, ByteArray.toList_eq] at hl
  have he : (x.toList == y.toList) = decide (x.data.toList = y.data.toList) := by
    rw [ByteArray.toList_eq, ByteArray.toList_eq]
    by_cases h : x.data.toList = y.data.toList
    · rw [decide_eq_true h, h]; simp
    · rw [decide_eq_false h]; simpa using h
  have hl2 : Op.bytesLess x.toList y.toList = bytesBefore x.data.toList y.data.toList := by rw [ByteArray.toList_eq, ByteArray.toList_eq]; exact hl
  clear hl
  obtain ⟨V, hV⟩ : ∃ V, cmpV x.data.toList y.data.toList = V := ⟨_, rfl⟩
  rw [hV]
  unfold cmpV at hV
  cases hb : bytesBefore x.data.toList y.data.toList with
  | true =>
    rw [hb] at hl2 hV
    rw [if_pos rfl] at hV
    subst hV
    clear he hb
    go_enter Tryz.func95, Tryz.ntmps95
    go_wp2_with (first | (go_at_call 114; refine (nan_any _ _).mono ?_; rintro e w' ⟨rfl, hw⟩; subst w'))
    go_ret
    exact ⟨rfl, rfl⟩
  | false =>
    rw [hb] at hl2 hV
    rw [if_neg (by decide)] at hV
    by_cases hxy : x.data.toList = y.data.toList
    · rw [decide_eq_true hxy] at he
      rw [if_pos hxy] at hV
      subst hV
      clear hxy hb
      go_enter Tryz.func95, Tryz.ntmps95
      go_wp2_with (first | (go_at_call 114; refine (nan_any _ _).mono ?_; rintro e w' ⟨rfl, hw⟩; subst w'))
      go_ret
      exact ⟨rfl, rfl⟩
    · rw [decide_eq_false hxy] at he
      rw [if_neg hxy] at hV
      subst hV
      clear hxy hb
      go_enter Tryz.func95, Tryz.ntmps95
      go_wp2_with (first | (go_at_call 114; refine (nan_any _ _).mono ?_; rintro e w' ⟨rfl, hw⟩; subst w'))
      go_ret
      exact ⟨rfl, rfl⟩
def cfD (x y : Doc) : Int := cmpV x.uri y.uri
theorem lt_cf (x y : Doc) : ltOf cfD x y = bytesBefore x.uri y.uri := cmpV_lt _ _
theorem swo_cf : SWO (ltOf cfD) := by
  refine ⟨fun x => ?_, fun x y z h1 h2 => ?_, fun x y z h1 h2 => ?_⟩
  · rw [lt_cf, bb_irrefl]
  · rw [lt_cf] at h1 h2 ⊢; exact bb_trans h1 h2
  · rw [lt_cf] at h1 h2 ⊢
    cases h : bytesBefore x.uri z.uri with
    | false => rfl
    | true =>
      cases hyx : bytesBefore y.uri x.uri with
      | true => have := bb_trans hyx h; rw [h2] at this; cases this
      | false => rw [bb_total h1 hyx, h2] at h; cases h
/-- the closure that All hands to SortedFunc -/
theorem all1_any (x y : Doc) (w : World) : Calls Tryz.prog 94 #[.agg (docCell x).toArray, .agg (docCell y).toArray] w fun e w' => e = .returned (.int .i64 (cfD x y)) ∧ w' = (w.alloc (.cells (docCell x).toArray 53)).alloc (.cells (docCell y).toArray 53) := by
  have hc := fun w => cmp_any ⟨x.uri.toArray⟩ ⟨y.uri.toArray⟩ w
  have e : ∀ l : List UInt8, (⟨l.toArray⟩ : ByteArray).data.toList = l := fun l => rfl
  simp only [] at hc
  unfold cfD
  generalize cmpV x.uri y.uri = V at *
  unfold docCell
  go_enter Tryz.func94, Tryz.ntmps94
  go_wp2_with (first | (go_at_call 95; refine (hc _).mono ?_; rintro e w' ⟨rfl, hw⟩; subst w'))
  go_ret
  exact ⟨rfl, rfl⟩
instance : Inhabited Doc := ⟨doc0⟩
theorem cmp_lays (blk off size : Nat) (w : World) : CmpLays Tryz.prog 94 #[] docCell 3 cfD blk off size w := fun m os dk _ x y =>
  (all1_any x y _).mono fun e w' ⟨h1, h2⟩ => ⟨h1, 0, #[.cells (docCell x).toArray 53, .cells (docCell y).toArray 53], by rw [h2]; rfl⟩
end Go.Proofs.Dc
/- D17: slices.SortedFunc at documents; All. -/
namespace Go.Proofs.Dc
open Go.RowKit Go.Proofs Go.Lib Go.Maps Go.Shelf Go.Sort

theorem docCells_at {l : List Doc} {k : Nat} {j : Doc} (h : l[k]? = some j) (f : Nat) (hf : f < 3) : (docCells l)[k * 3 + f]? = (docCell j)[f]? := by
  induction l generalizing k with
  | nil => simp at h
  | cons i t ih =>
    show (docCell i ++ docCells t)[k * 3 + f]? = _
    cases k with
    | zero =>
      simp at h
      subst h
      rw [List.getElem?_append_left (by simp [docCell]; omega)]
      simp
    | succ k =>
      simp at h
      rw [List.getElem?_append_right (by simp [docCell]; omega)]
      rw [show (k + 1) * 3 + f - (docCell i).length = k * 3 + f by simp [docCell]; omega]
      exact ih h
theorem flat_list (l : List Doc) : (flatK docCell 3 l.toArray).toList = docCells l := by
  apply List.ext_getElem?
  intro t
  by_cases ht : t < l.length * 3
  · have h1 : t < l.toArray.size * 3 := by simpa using ht
    have hk : t / 3 < l.length := by omega
    have e := docCells_at (l := l) (k := t / 3) (List.getElem?_eq_getElem hk) (t % 3) (Nat.mod_lt _ (by decide))
    rw [show t / 3 * 3 + t % 3 = t by omega] at e
    rw [e, Array.getElem?_toList, Array.getElem?_eq_getElem (by simpa using h1)]
    have hg := get_flatK docCell 3 l.toArray t h1
    rw [getElem!_pos _ t (by simpa using h1)] at hg
    rw [hg]
    have h3 : t % 3 < (docCell l[t / 3]).length := by simp [docCell]; omega
    rw [List.getElem?_eq_getElem h3]
    simp [hk, h3]
  · rw [List.getElem?_eq_none (by simp; omega), List.getElem?_eq_none (by rw [docCells_length]; omega)]
theorem holds_of_own {w : World} {g : Nat} {cur : Array Value} {l : List Doc} (hb : w.heap[g]? = some (.cells cur 53 (0, 0))) (ht : cur.toList.take (l.length * 3) = docCells l) : HoldsK docCell 3 w g 0 l.toArray := by
  intro j hj
  have hj2 : j < l.length * 3 := by simpa using hj
  have e : cur[j]? = some ((flatK docCell 3 l.toArray)[j]!) := by
    rw [← Array.getElem?_toList, ← List.getElem?_take_of_lt hj2, ht, ← flat_list, Array.getElem?_toList, getElem!_pos _ j hj, Array.getElem?_eq_getElem hj]
  constructor
  · simp only [World.cell?, hb, Nat.zero_add]
    exact e
  · simp [World.frozen?, hb]
theorem sorted_heapK {w : World} {g n : Nat} {os : Array Obj} {cur : Array Value} {e : TypeId} {fr : Nat × Nat} (d : Array Doc) (hb : w.heap[g]? = some (.cells cur e fr)) :
    (sortWorldK docCell 3 w g 0 n d os).heap[g]? = some (.cells (putCells id 0 (flatK docCell 3 d) cur) e fr) := by
  have hg : g < w.heap.size := (Array.getElem?_eq_some_iff.1 hb).1
  unfold sortWorldK putRowK
  rw [heap_grow_old _ _ (by simpa using hg)]
  simp [putRow, mapBlock, Sort.ahead, Array.getElem?_modify, hb, onCells]
theorem sorted_grownK {w : World} {g n : Nat} {os : Array Obj} (d : Array Doc) : w.grownBy (sortWorldK docCell 3 w g 0 n d os) (some g) := by
  refine ⟨rfl, rfl, rfl, by simp [sortWorldK, putRowK], fun k hk hne => ?_⟩
  unfold sortWorldK putRowK
  rw [heap_grow_old _ _ (by simpa using hk)]
  have : g ≠ k := fun e => hne (by rw [e])
  simp [putRow, mapBlock, Sort.ahead, Array.getElem?_modify, this]
theorem sorted_takeK (cur : Array Value) (ts : List Doc) (h : ts.length * 3 ≤ cur.size) : (putCells id 0 (flatK docCell 3 ts.toArray) cur).toList.take (ts.length * 3) = docCells ts := by
  rw [← flat_list]
  apply List.ext_getElem?
  intro j
  by_cases hj : j < ts.length * 3
  · rw [List.getElem?_take_of_lt hj, Array.getElem?_toList, Array.getElem?_toList]
    have hf : j < (flatK docCell 3 ts.toArray).size := by simpa using hj
    rw [Array.getElem?_eq_getElem hf]
    simp [putCells, hj, show j < cur.size by omega]
  · rw [List.getElem?_take_eq_none (by omega), List.getElem?_eq_none (by simp; omega)]
theorem agg38 (w : World) : (isAgg 53).run Tryz.prog w = .ok true w := Tryz.isAgg53 w
theorem size38 (w : World) : (Go.sizeOf 53).run Tryz.prog w = .ok 3 w := Tryz.sizeOf53 w
/-- sorting what was collected gives the documents in their order -/
theorem sort_any (w : World) (B : Nat) (v : Value) (ds L : List Doc) (hO : Ord L) (hp : ds.Perm L) (hN : L.length ≤ 1000000) (hrow : w.ownsRow B 53 3 v ds.length (docCells ds)) :
    Calls Tryz.prog 112 #[v, .func (.func 94) #[] #[]] w fun e w' => e = .returned (.tuple #[]) ∧ w'.ownsRow B 53 3 v L.length (docCells L) ∧ w.grownBy w' v.ownBlock := by
  have hlen := hp.length_eq
  rcases hrow.2 with ⟨h1, h2⟩ | ⟨g, cap, cur, h1, h2, h3, h4, h5, h6, h7⟩
  · subst h1
    have hds : ds = [] := List.length_eq_zero_iff.1 h2
    have hL : L = [] := List.length_eq_zero_iff.1 (by rw [← hlen]; exact h2)
    subst hds hL
    exact (AnyF.slices_SortFunc_none Tryz.sortK none 0 _ w).mono fun e w' ⟨he, hw⟩ => ⟨he, by rw [hw]; exact hrow, by rw [hw]; exact World.grownBy.refl _ _⟩
  · subst h1
    have hH := holds_of_own h3 h7
    have hg : g < w.heap.size := (Array.getElem?_eq_some_iff.1 h3).1
    have hs := AnyQ.slices_SortFunc Tryz.sortK 3 agg38 size38 docCell (fun _ => rfl) docCell_ones cfD swo_cf 94 #[] g 0 cap ds.toArray w (enters_of Tryz.func94 (by kernel_rfl) rfl) (cmp_lays _ _ _ _) hH hg (by simp; omega)
    refine hs.mono fun e w' ⟨he, d', n, os, hpm, hst, hw⟩ => ⟨he, ?_, ?_⟩
    · obtain ⟨hsz, _, hpp⟩ := hpm
      have hdl : d'.toList = L := by
        have e1 : (d'.extract 0 ds.toArray.size).toList = d'.toList := by rw [← hsz]; simp
        have e2 : (ds.toArray.extract 0 ds.toArray.size).toList = ds := by simp
        rw [e1, e2] at hpp
        refine sorted_eq hO (hpp.trans hp) ?_
        rw [List.pairwise_iff_getElem]
        intro i j hi hj hij
        have hz : d'.toList.length = d'.size := by simp
        have := hst i j (Nat.zero_le _) hij (by rw [← hsz]; omega)
        rw [lt_cf, getElem!_pos _ j (by omega), getElem!_pos _ i (by omega)] at this
        simpa using this
      have hd : d' = L.toArray := by rw [← hdl]
      subst hd
      rw [hw]
      refine ⟨docCells_length L, .inr ⟨g, cap, _, by rw [hlen], h2, sorted_heapK _ h3, by omega, h5, by simp [putCells, h6], sorted_takeK _ _ (by rw [h6]; omega)⟩⟩
    · rw [hw]
      exact sorted_grownK _
set_option maxHeartbeats 1000000 in
theorem sortedFunc_any (lb : Array Value) (L : List Doc) (hO : Ord L) (hN : L.length ≤ 1000000) (w : World) (hseq : SeqStopsK Fence.wide 4 Tryz.prog 113 lb (fun d => #[docVal d]) KeepsWalks (fun xs => xs.Perm L) (fun _ => True) L.length w) :
    Calls Tryz.prog 92 #[.func (.func 113) #[] lb, .func (.func 94) #[] #[]] w fun e w' => ∃ v, e = .returned v ∧ w'.ownsRow w.heap.size 53 3 v L.length (docCells L) ∧ Below w.heap.size w w' := by
  have hc := collect_any lb L hN w hseq
  go_enter Tryz.func92, Tryz.ntmps92
  go_wp2_with (first
    | (go_at_call 111; refine hc.mono ?_; rintro e w1 ⟨v, ds, rfl, h1, h2, h3, h4⟩)
    | (go_at_call 112; refine (sort_any _ _ _ ds L hO h1 hN h2).mono ?_; rintro e w2 ⟨rfl, h5, h6⟩))
  go_ret
  exact ⟨v, rfl, h5, h4.grown h6 h4.size (fun k hk => (h2.lt k hk).1)⟩
set_option maxRecDepth 100000 in
set_option maxHeartbeats 1000000 in
theorem all_any (w : World) (b M : Nat) (L : List Doc) (h : DV w b M L) (hO : Ord L) (hN : L.length ≤ 1000000) : Calls Tryz.prog 59 #[.pointer (some ⟨b, 0, none⟩)] w fun e w' => ∃ v, e = .returned v ∧ w'.ownsRow w.heap.size 53 3 v L.length (docCells L) ∧ Below w.heap.size w w' := by
  have hi := is_any w b M L h
  have hc := h.cell
  have hB : Below w.heap.size w (w.alloc (.cells #[.map (some M)] 81)) := (Below.refl _ w).alloc (Nat.le_refl _) _
  have hm : (w.alloc (.cells #[.map (some M)] 81)).cell? ⟨w.heap.size, 0, none⟩ = some (.map (some M)) := cell_of_row _ _ 0 _ _ _ (World.alloc_heap_new w _)
  have hv := values_any M w
  have hseq := values_stops 4 (by decide) w.heap.size M L hO (w.alloc (.cells #[.map (some M)] 81)) (by simp) hm (h.below hB).mp
  have hsf := sortedFunc_any _ L hO hN _ hseq
  have hsz : (w.alloc (.cells #[.map (some M)] 81)).heap.size = w.heap.size + 1 := by simp
  clear h hm hseq
  generalize w.alloc (.cells #[.map (some M)] 81) = V at *
  go_enter Tryz.func59, Tryz.ntmps59
  go_wp2_with (first
    | (go_at_call 63; refine hi.mono ?_; rintro e w1 ⟨rfl, hw⟩; subst w1)
    | (go_at_call 93; refine hv.mono ?_; rintro e w2 ⟨rfl, hw⟩; subst w2)
    | (go_at_call 92; refine hsf.mono ?_; rintro e w3 ⟨v, rfl, h3, h4⟩))
  go_ret
  refine ⟨v, rfl, ⟨h3.1, ?_⟩, hB.trans (h4.mono hB.size)⟩
  rcases h3.2 with h5 | ⟨g, cap, cur, g1, g2, g3⟩
  · exact .inl h5
  · exact .inr ⟨g, cap, cur, g1, by omega, g3⟩
end Go.Proofs.Dc
/- D18: docs.Close, Copy; documents that are none. -/
namespace Go.Proofs.Dc
open Go.RowKit Go.Proofs Go.Lib Go.Maps Go.Shelf

def closeE (L : List Doc) (u : List UInt8) : Int := if (getD? L u).isSome = true then 0 else 5
theorem without_none {L : List Doc} {u : List UInt8} (h : getD? L u = none) : without u L = L := by
  unfold without
  refine List.filter_eq_self.2 fun d hd => ?_
  unfold getD? at h
  rw [List.find?_eq_none] at h
  simpa using h d hd
theorem DV.drop {w : World} {b M : Nat} {L : List Doc} (h : DV w b M L) (u : ByteArray) (hu : u.size ≤ maxLen) :
    ∃ w', (∀ ty, (Builtin.delete_ #[81, 9] ty #[.map (some M), .string u]).run Tryz.prog w = .ok (.tuple #[]) w') ∧ DV w' b M (without u.data.toList L) ∧ w.grownBy w' (some M) := by
  have hd := fun ty => h.mp.drop law9 Tryz.underlying81 (Go.WideMaps.keyOf_string_mk Tryz.underlying9 hu) ty
  obtain ⟨w', h1, h2, ht⟩ := hd 0
  have h3 := World.mapTurned.grown ht
  refine ⟨w', fun ty => h1, ⟨(h3.block b h.lt.1 (by intro e; exact h.ne (Option.some.inj e))).trans h.hd, ?_⟩, h3⟩
  rw [DD_del] at h2
  exact own_tight h2
set_option maxRecDepth 100000 in
set_option maxHeartbeats 1000000 in
theorem close_any (w : World) (b M : Nat) (L : List Doc) (h : DV w b M L) (u : ByteArray) (hu : u.size ≤ maxLen) :
    Calls Tryz.prog 55 #[.pointer (some ⟨b, 0, none⟩), .string u] w fun e w' => e = .returned (.int .i64 (closeE L u.data.toList)) ∧ DV w' b M (without u.data.toList L) ∧ w.grownBy w' (some M) := by
  have hi := is_any w b M L h
  have hlook := h.look u hu
  have hcell := h.cell
  have hlt := h.lt
  unfold closeE
  obtain ⟨th, hth⟩ : ∃ x, (getD? L u.data.toList).isSome = x := ⟨_, rfl⟩
  rw [hth] at hlook ⊢
  have hno : th = false → without u.data.toList L = L := fun e => without_none (by rw [e] at hth; simpa using hth)
  clear hth
  generalize (getD? L u.data.toList).getD doc0 = D at hlook
  unfold docVal at hlook
  obtain ⟨A1, hA1⟩ : ∃ A : ByteArray, (⟨D.uri.toArray⟩ : ByteArray) = A := ⟨_, rfl⟩
  obtain ⟨A2, hA2⟩ : ∃ A : ByteArray, (⟨D.text.toArray⟩ : ByteArray) = A := ⟨_, rfl⟩
  simp only [hA1, hA2] at hlook
  have bA : Below w.heap.size w (w.alloc (.cells #[.string A1, .string A2, .int .i64 D.ver] 53)) := (Below.refl _ _).alloc (Nat.le_refl _) _
  have h2 := h.below bA
  have c2 := h2.cell
  obtain ⟨w4, hdel, hd4, hg4⟩ := h2.drop u hu
  have H2 := Lib.hid h2
  have H4 := Lib.hid hd4
  have G4 := Lib.hid hg4
  have HNO := Lib.hid hno
  clear h h2 hd4 hg4 hno hA1 hA2
  cases th with
  | false =>
    clear hdel
    rw [if_neg (by decide), HNO.out rfl]
    go_enter Tryz.func55, Tryz.ntmps55
    go_wp2_with (first | (go_at_call 63; refine hi.mono ?_; rintro e w1 ⟨rfl, hw⟩; subst w1))
    go_ret
    exact ⟨rfl, H2.out, gb_below bA⟩
  | true =>
    rw [if_pos rfl]
    go_enter Tryz.func55, Tryz.ntmps55
    go_wp2_with (first | (go_at_call 63; refine hi.mono ?_; rintro e w1 ⟨rfl, hw⟩; subst w1))
    go_ret
    exact ⟨rfl, H4.out, (gb_below bA).trans G4.out⟩
set_option maxRecDepth 100000 in
set_option maxHeartbeats 1000000 in
theorem copy_any (w : World) (b M : Nat) (L : List Doc) (h : DV w b M L) : Calls Tryz.prog 16 #[.pointer (some ⟨b, 0, none⟩)] w fun e w' => ∃ b2 M2, e = .returned (.pointer (some ⟨b2, 0, none⟩)) ∧ DV w' b2 M2 L ∧ Below w.heap.size w w' ∧ w.heap.size ≤ b2 ∧ w.heap.size ≤ M2 := by
  have hi := is_any w b M L h
  have hcell := h.cell
  have hcl := AnyW.maps_Clone_owns Tryz.cloneL 9 docEl M L.length (DD L) w h.mp
  clear h
  go_enter Tryz.func16, Tryz.ntmps16
  go_wp2_with (first
    | (go_at_call 63; refine hi.mono ?_; rintro e w1 ⟨rfl, hw⟩; subst w1)
    | (go_at_call 64; refine hcl.mono ?_; rintro e w2 ⟨rfl, h1, h2, h3⟩))
  go_ret
  exact ⟨w2.heap.size, w.heap.size, rfl, ⟨World.alloc_heap_new w2 _, h1.alloc _⟩, h3.trans ((Below.refl _ _).alloc h3.size _), h3.size, Nat.le_refl _⟩
/-- documents that New did not make -/
theorem is_nil (w : World) : Calls Tryz.prog 63 #[.pointer none] w fun e w' => e = .returned (.bool false) ∧ w = w' := by
  go_enter Tryz.func63, Tryz.ntmps63
  go_wp2
  go_ret
  exact ⟨rfl, rfl⟩
theorem is_zero (w : World) (b : Nat) (h : w.heap[b]? = some (.cells #[.map none] 83 (0, 0))) : Calls Tryz.prog 63 #[.pointer (some ⟨b, 0, none⟩)] w fun e w' => e = .returned (.bool false) ∧ w = w' := by
  have c : w.cell? ⟨b, 0, none⟩ = some (.map none) := by simp [World.cell?, h]
  have hr := run_neq_map none
  clear h
  go_enter Tryz.func63, Tryz.ntmps63
  go_wp2
  go_ret
  exact ⟨rfl, rfl⟩
/-- none, or an empty one -/
def NoneV (w : World) (p : Option Addr) : Prop := p = none ∨ ∃ b, p = some ⟨b, 0, none⟩ ∧ w.heap[b]? = some (.cells #[.map none] 83 (0, 0))
theorem is_none (w : World) (p : Option Addr) (h : NoneV w p) : Calls Tryz.prog 63 #[.pointer p] w fun e w' => e = .returned (.bool false) ∧ w = w' := by
  rcases h with rfl | ⟨b, rfl, h⟩
  · exact is_nil w
  · exact is_zero w b h
theorem NoneV.below {w w' : World} {p : Option Addr} (h : NoneV w p) (hb : Below w.heap.size w w') : NoneV w' p := by
  rcases h with rfl | ⟨b, rfl, h⟩
  · exact .inl rfl
  · exact .inr ⟨b, rfl, (hb.block b (Array.getElem?_eq_some_iff.1 h).1).trans h⟩
set_option maxRecDepth 100000 in
theorem open_none (w : World) (p : Option Addr) (h : NoneV w p) (u t : ByteArray) (v : Int) : Calls Tryz.prog 41 #[.pointer p, .string u, .string t, .int .i64 v] w fun e w' => e = .returned (.int .i64 1) ∧ w = w' := by
  have hi := is_none w p h
  clear h
  go_enter Tryz.func41, Tryz.ntmps41
  go_wp2_with (first | (go_at_call 63; refine hi.mono ?_; rintro e w1 ⟨rfl, hw⟩; subst w1))
  go_ret
  exact ⟨rfl, rfl⟩
set_option maxRecDepth 100000 in
theorem change_none (w : World) (p : Option Addr) (h : NoneV w p) (u : ByteArray) (v : Int) (x : Value) : Calls Tryz.prog 43 #[.pointer p, .string u, .int .i64 v, x] w fun e w' => e = .returned (.int .i64 1) ∧ w = w' := by
  have hi := is_none w p h
  clear h
  go_enter Tryz.func43, Tryz.ntmps43
  go_wp2_with (first | (go_at_call 63; refine hi.mono ?_; rintro e w1 ⟨rfl, hw⟩; subst w1))
  go_ret
  exact ⟨rfl, rfl⟩
set_option maxRecDepth 100000 in
theorem close_none (w : World) (p : Option Addr) (h : NoneV w p) (u : ByteArray) : Calls Tryz.prog 55 #[.pointer p, .string u] w fun e w' => e = .returned (.int .i64 1) ∧ w = w' := by
  have hi := is_none w p h
  clear h
  go_enter Tryz.func55, Tryz.ntmps55
  go_wp2_with (first | (go_at_call 63; refine hi.mono ?_; rintro e w1 ⟨rfl, hw⟩; subst w1))
  go_ret
  exact ⟨rfl, rfl⟩
set_option maxRecDepth 100000 in
theorem get_none (w : World) (p : Option Addr) (h : NoneV w p) (u : ByteArray) : Calls Tryz.prog 61 #[.pointer p, .string u] w fun e w' => e = .returned (.tuple #[docVal doc0, .bool false]) ∧ Below w.heap.size w w' := by
  have bV : Below w.heap.size w (w.alloc (.cells #[.string ⟨#[]⟩, .string ⟨#[]⟩, .int .i64 0] 53)) := (Below.refl w.heap.size w).alloc (Nat.le_refl _) _
  have hi := is_none _ p (h.below bV)
  clear h
  go_enter Tryz.func61, Tryz.ntmps61
  go_wp2_with (first | (go_at_call 63; refine hi.mono ?_; rintro e w1 ⟨rfl, hw⟩; subst w1))
  exact bodyPost_ret (v := .tuple #[.agg #[.string ⟨#[]⟩, .string ⟨#[]⟩, .int .i64 0], .bool false]) (by simp [results, Tryz.results61, go_sem]) rfl ⟨rfl, bV⟩
set_option maxRecDepth 100000 in
theorem copy_none (w : World) (p : Option Addr) (h : NoneV w p) : Calls Tryz.prog 16 #[.pointer p] w fun e w' => e = .returned (.pointer none) ∧ w = w' := by
  have hi := is_none w p h
  clear h
  go_enter Tryz.func16, Tryz.ntmps16
  go_wp2_with (first | (go_at_call 63; refine hi.mono ?_; rintro e w1 ⟨rfl, hw⟩; subst w1))
  go_ret
  exact ⟨rfl, rfl⟩
set_option maxRecDepth 100000 in
theorem all_none (w : World) (p : Option Addr) (h : NoneV w p) : Calls Tryz.prog 59 #[.pointer p] w fun e w' => e = .returned (.slice none 0 0) ∧ w = w' := by
  have hi := is_none w p h
  clear h
  go_enter Tryz.func59, Tryz.ntmps59
  go_wp2_with (first | (go_at_call 63; refine hi.mono ?_; rintro e w1 ⟨rfl, hw⟩; subst w1))
  go_ret
  exact ⟨rfl, rfl⟩
end Go.Proofs.Dc
/- D19: A change of a valid text by a valid text leaves a valid text. No program in sight. -/
namespace Go.Proofs.Dc
open Go.Lib Go.Proofs.Utf

theorem valid_app (l m : List UInt8) (h : validD l = true) : validD (l ++ m) = validD m := valid_append _ l m (Nat.le_refl _) h
theorem valid_ascii (b : UInt8) (h : b.toNat < 128) : validD [b] = true := by
  have h1 : Hit [b] 1 := (Hit1 [b] (by simp)).2 (by simpa using h)
  have hf := found [b] 1 (by decide) (by decide) (by simp) h1
  rw [validD_step [b] (by simp), hf]
  have hc := cand_ne [b] 1 (by decide) (by decide) (by simp) h1
  rw [if_neg hc]
  rfl
theorem valid_head (l : List UInt8) (hne : l ≠ []) (h : validD l = true) : validD (l.take (headW l)) = true := by
  obtain ⟨hp, _⟩ := valid_step l hne h
  obtain ⟨k, h1, h4, hk, hh⟩ := pt_hit l hne hp
  have hw : headW l = k := by unfold headW; rw [found l k h1 h4 hk hh]
  rw [hw, ← hh.2]
  exact enc_valid _ hh.1
theorem high_tail (l : List UInt8) (k i : Nat) (h1 : 1 ≤ k) (h4 : k ≤ 4) (hk : k ≤ l.length) (hh : Hit l k) (hi : 0 < i) (hik : i < k) : 128 ≤ (l.getD i 0).toNat := by
  rcases (show k = 1 ∨ k = 2 ∨ k = 3 ∨ k = 4 by omega) with rfl | rfl | rfl | rfl
  · omega
  · obtain rfl : i = 1 := by omega
    have := ((Hit2 l hk).1 hh).2.1
    omega
  · have h3 := (Hit3 l hk).1 hh
    have := h3.2.1
    have := h3.2.2.1
    rcases (show i = 1 ∨ i = 2 by omega) with rfl | rfl <;> omega
  · have h3 := (Hit4 l hk).1 hh
    have := h3.2.1
    have := h3.2.2.1
    have := h3.2.2.2.1
    rcases (show i = 1 ∨ i = 2 ∨ i = 3 by omega) with rfl | rfl | rfl <;> omega
/-- what stands ahead of an ASCII byte in a valid text is valid -/
theorem valid_ahead : ∀ (n : Nat) (l r : List UInt8) (b : UInt8), l.length ≤ n → b.toNat < 128 → validD (l ++ b :: r) = true → validD l = true
  | 0, l, r, b, h, _, _ => by
    have : l = [] := List.eq_nil_of_length_eq_zero (by omega)
    subst this; rfl
  | n + 1, l, r, b, h, hb, hv => by
    by_cases hne : l = []
    · subst hne; rfl
    · have hl : 0 < l.length := List.length_pos_iff.2 hne
      have hne2 : l ++ b :: r ≠ [] := by simp
      obtain ⟨hp, hv2⟩ := valid_step _ hne2 hv
      obtain ⟨k, h1, h4, hk, hh⟩ := pt_hit _ hne2 hp
      have hw : headW (l ++ b :: r) = k := by unfold headW; rw [found _ k h1 h4 hk hh]
      have hkl : k ≤ l.length := by
        rcases Nat.lt_or_ge l.length k with hlt | hge
        · have := high_tail _ k l.length h1 h4 hk hh hl hlt
          rw [List.getD_eq_getElem?_getD, List.getElem?_append_right (Nat.le_refl _), Nat.sub_self] at this
          simp at this
          omega
        · exact hge
      have hd : (l ++ b :: r).drop k = l.drop k ++ b :: r := List.drop_append_of_le_length hkl
      rw [hw, hd] at hv2
      have ih := valid_ahead n (l.drop k) r b (by rw [List.length_drop]; omega) hb hv2
      have ht : l.take k = (l ++ b :: r).take k := (List.take_append_of_le_length hkl).symm
      have hvt : validD (l.take k) = true := by
        rw [ht, ← hw]
        exact valid_head _ hne2 hv
      rw [← List.take_append_drop k l, valid_app _ _ hvt]
      exact ih
def brk (b : UInt8) : Prop := b = 10 ∨ b = 13
/-- where lines begin and end -/
theorem lines_brk : ∀ (l : List UInt8) (cr : Bool) (f a : Nat), ∀ x ∈ linesP l cr f a,
    (x.1 = f ∨ ∃ j c, x.1 = a + j + 1 ∧ l[j]? = some c ∧ brk c) ∧ (x.2 = a + l.length ∨ ∃ j c, x.2 = a + j ∧ l[j]? = some c ∧ brk c)
  | [], cr, f, a, x, hx => by
    simp [linesP] at hx
    subst hx
    exact ⟨.inl rfl, .inl (by simp)⟩
  | b :: r, cr, f, a, x, hx => by
    have up1 : (∃ j c, x.1 = a + 1 + j + 1 ∧ r[j]? = some c ∧ brk c) → ∃ j c, x.1 = a + j + 1 ∧ (b :: r)[j]? = some c ∧ brk c := fun ⟨j, c, h1, h2, h3⟩ => ⟨j + 1, c, by omega, by simpa using h2, h3⟩
    have up2 : (x.2 = a + 1 + r.length ∨ ∃ j c, x.2 = a + 1 + j ∧ r[j]? = some c ∧ brk c) → x.2 = a + (b :: r).length ∨ ∃ j c, x.2 = a + j ∧ (b :: r)[j]? = some c ∧ brk c := fun h => by
      rcases h with h | ⟨j, c, h1, h2, h3⟩
      · exact .inl (by simp; omega)
      · exact .inr ⟨j + 1, c, by omega, by simpa using h2, h3⟩
    simp only [linesP] at hx
    split at hx
    · rename_i hc
      have hb : brk b := .inl (by simpa using (Bool.and_eq_true_iff.1 hc).2)
      obtain ⟨g1, g2⟩ := lines_brk r false (a + 1) (a + 1) x hx
      refine ⟨?_, up2 g2⟩
      rcases g1 with g1 | g1
      · exact .inr ⟨0, b, by omega, rfl, hb⟩
      · exact .inr (up1 g1)
    · split at hx
      · rename_i hc
        have hb : brk b := by
          rcases Bool.or_eq_true_iff.1 hc with h | h
          · exact .inl (by simpa using h)
          · exact .inr (by simpa using h)
        rcases List.mem_cons.1 hx with rfl | hx
        · exact ⟨.inl rfl, .inr ⟨0, b, rfl, rfl, hb⟩⟩
        · obtain ⟨g1, g2⟩ := lines_brk r _ (a + 1) (a + 1) x hx
          refine ⟨?_, up2 g2⟩
          rcases g1 with g1 | g1
          · exact .inr ⟨0, b, by omega, rfl, hb⟩
          · exact .inr (up1 g1)
      · obtain ⟨g1, g2⟩ := lines_brk r false f (a + 1) x hx
        refine ⟨?_, up2 g2⟩
        rcases g1 with g1 | g1
        · exact .inl g1
        · exact .inr (up1 g1)
theorem brk_ascii {b : UInt8} (h : brk b) : b.toNat < 128 := by rcases h with rfl | rfl <;> decide
theorem take_at {l : List UInt8} {j : Nat} {c : UInt8} (h : l[j]? = some c) : l = l.take j ++ c :: l.drop (j + 1) := by
  obtain ⟨hl, he⟩ := List.getElem?_eq_some_iff.1 h
  conv => lhs; rw [← List.take_append_drop j l, List.drop_eq_getElem_cons hl, he]
theorem valid_take_at {l : List UInt8} (hv : validD l = true) {j : Nat} {c : UInt8} (h : l[j]? = some c) (hc : brk c) : validD (l.take j) = true ∧ validD (l.take (j + 1)) = true := by
  have e := take_at h
  have h1 : validD (l.take j) = true := by
    rw [e] at hv
    exact valid_ahead _ _ _ c (Nat.le_refl _) (brk_ascii hc) hv
  refine ⟨h1, ?_⟩
  obtain ⟨hl, he⟩ := List.getElem?_eq_some_iff.1 h
  rw [List.take_succ_eq_append_getElem hl, valid_app _ _ h1, he]
  exact valid_ascii c (brk_ascii hc)
theorem line_bounds {l : List UInt8} (hv : validD l = true) {x : Nat × Nat} (hx : x ∈ linesL l) : validD (l.take x.1) = true ∧ validD (l.take x.2) = true := by
  obtain ⟨h1, h2⟩ := lines_brk l false 0 0 x hx
  constructor
  · rcases h1 with h1 | ⟨j, c, h1, hj, hc⟩
    · rw [h1]; rfl
    · rw [h1, Nat.zero_add]; exact (valid_take_at hv hj hc).2
  · rcases h2 with h2 | ⟨j, c, h2, hj, hc⟩
    · rw [h2, Nat.zero_add, List.take_of_length_le (Nat.le_refl _)]; exact hv
    · rw [h2, Nat.zero_add]; exact (valid_take_at hv hj hc).1
/-- the byte of a unit is a boundary -/
theorem byte_bound : ∀ (n : Nat) (l : List UInt8) (pos acc : Nat) (want : Int), l.length ≤ n → validD l = true → ∃ k, byteP (pieces l) pos acc want = pos + k ∧ k ≤ l.length ∧ validD (l.take k) = true
  | 0, l, pos, acc, want, h, hv => by
    have : l = [] := List.eq_nil_of_length_eq_zero (by omega)
    subst this
    exact ⟨0, rfl, Nat.le_refl _, rfl⟩
  | n + 1, l, pos, acc, want, h, hv => by
    by_cases hne : l = []
    · subst hne
      exact ⟨0, rfl, Nat.le_refl _, rfl⟩
    · rw [pieces_step l hne, byteP]
      split
      · exact ⟨0, rfl, Nat.zero_le _, rfl⟩
      · obtain ⟨_, hv2⟩ := valid_step l hne hv
        have hw := headW_pos l
        have hle := headW_le l (List.length_pos_iff.2 hne)
        obtain ⟨k, h1, h2, h3⟩ := byte_bound n (l.drop (headW l)) (pos + headW l) (acc + wt (decodeL l).1) want (by rw [List.length_drop]; omega) hv2
        refine ⟨headW l + k, by rw [h1]; omega, by rw [List.length_drop] at h2; omega, ?_⟩
        rw [List.take_add, valid_app _ _ (valid_head l hne hv)]
        exact h3
open YtcenfckjkboabaaGreatDoor in
/-- a place is a boundary -/
theorem off_bound {s : ByteArray} (hv : validD s.data.toList = true) (a b : Int) : ∃ k : Nat, (offP s a b).1 = k ∧ k ≤ s.size ∧ validD (s.data.toList.take k) = true := by
  unfold offP
  split
  · exact ⟨0, rfl, Nat.zero_le _, rfl⟩
  · split
    · exact ⟨s.size, rfl, Nat.le_refl _, by rw [Lib.size_eq, List.take_of_length_le (Nat.le_refl _)]; exact hv⟩
    · rename_i x hl
      have hx := lineAt_in hl
      have hmem : x ∈ linesL s.data.toList := by
        unfold lineAt at hl
        split at hl
        · exact List.mem_of_getElem? hl
        · cases hl
      obtain ⟨h1, h2⟩ := line_bounds hv hmem
      have hline : (lineB s x).data.toList = (s.data.toList.drop x.1).take (x.2 - x.1) := ext_list _ _ _
      have e2 : s.data.toList.take x.2 = s.data.toList.take x.1 ++ (s.data.toList.drop x.1).take (x.2 - x.1) := by
        rw [← List.take_add, show x.1 + (x.2 - x.1) = x.2 by omega]
      rw [e2, valid_app _ _ h1, ← hline] at h2
      obtain ⟨k, k1, k2, k3⟩ := byte_bound _ (lineB s x).data.toList 0 0 b (Nat.le_refl _) h2
      refine ⟨x.1 + k, ?_, ?_, ?_⟩
      · simp only
        rw [k1]
        omega
      · rw [hline, List.length_take, List.length_drop, ← Lib.size_eq] at k2
        omega
      · rw [List.take_add, valid_app _ _ h1]
        rw [hline, List.take_take] at k3
        have hk : k ≤ x.2 - x.1 := by
          rw [hline, List.length_take] at k2
          omega
        rw [Nat.min_eq_left hk] at k3
        exact k3
theorem valid_drop {l : List UInt8} (hv : validD l = true) {k : Nat} (h : validD (l.take k) = true) : validD (l.drop k) = true := by
  rw [← List.take_append_drop k l, valid_app _ _ h] at hv
  exact hv
theorem step_valid {s t : ByteArray} {x : Chg} (hv : validD s.data.toList = true) (h : stepV s x = (t, 0)) : validD t.data.toList = true := by
  have hx : validD x.text.data.toList = true := by
    cases hb : validD x.text.data.toList with
    | true => rfl
    | false => rw [stepV_bad hb] at h; cases h
  have hpl : ∃ f g : Nat, (x.places s).1 = f ∧ (x.places s).2.1 = g ∧ validD (s.data.toList.take f) = true ∧ validD (s.data.toList.take g) = true ∧ g ≤ s.size := by
    unfold Chg.places
    split
    · exact ⟨0, s.size, rfl, rfl, rfl, by rw [Lib.size_eq, List.take_of_length_le (Nat.le_refl _)]; exact hv, Nat.le_refl _⟩
    · unfold YtcenfckjkboabaaGreatDoor.cutP
      obtain ⟨f, f1, f2, f3⟩ := off_bound hv x.a x.b
      obtain ⟨g, g1, g2, g3⟩ := off_bound hv x.c x.d
      split
      · exact ⟨0, 0, rfl, rfl, rfl, rfl, Nat.zero_le _⟩
      · exact ⟨f, g, f1, g1, f3, g3, g2⟩
  obtain ⟨f, g, hf, hg, v1, v2, hgs⟩ := hpl
  unfold stepV at h
  rw [if_neg (by rw [hx]; decide)] at h
  split at h
  · rename_i hh; exact absurd (congrArg Prod.snd h) hh
  · split at h
    · cases h
    · cases h
      rw [hf, hg]
      simp only [Int.toNat_natCast, ByteArray.data_append, Array.toList_append]
      rw [ext_list, List.drop_zero, Nat.sub_zero, Lib.extract_to_end, List.append_assoc, valid_app _ _ v1, valid_app _ _ hx]
      exact valid_drop hv v2
theorem after_valid {s : ByteArray} {cs : List Chg} (hv : validD s.data.toList = true) (h : (afterV s cs).2 = 0) : validD (afterV s cs).1.data.toList = true := by
  induction cs generalizing s with
  | nil => exact hv
  | cons x r ih =>
    rw [afterV] at h ⊢
    by_cases h0 : (stepV s x).2 = 0
    · rw [if_pos h0] at h ⊢
      exact ih (step_valid hv (t := (stepV s x).1) (by rw [← h0])) h
    · rw [if_neg h0] at h
      exact absurd h h0
end Go.Proofs.Dc
/- D20: The laws' filler. -/
namespace Go.Proofs.Dc
open Go.RowKit Go.Proofs Go.Lib Go.Maps

def fillL (n : Nat) : List UInt8 := [102, 105, 108, 101, 58, 47, 47, 47, 102, 105, 108, 108, 47, 102] ++ [UInt8.ofNat (97 + n / 26), UInt8.ofNat (97 + n % 26)] ++ [46, 103, 111]
def fillB (n : Nat) : ByteArray := ⟨(fillL n).toArray⟩
theorem fill_size (n : Nat) : (fillB n).size = 19 := by simp [fillB, fillL, ByteArray.size]
set_option maxRecDepth 100000 in
set_option maxHeartbeats 1000000 in
theorem filler_any (n : Nat) (hn : n < 40) (w : World) : Calls Tryz.prog 52 #[.int .i64 n] w fun e w' => e = .returned (.string (fillB n)) ∧ Below w.heap.size w w' := by
  have hback : (convert 119 9 (.slice (some ⟨w.heap.size, 0, none⟩) 2 2)).run Tryz.prog (w.alloc (.cells #[.int .u8 (97 + (n : Int) / 26), .int .u8 (97 + (n : Int) % 26)] 5)) = .ok (.string ⟨#[UInt8.ofNat (97 + n / 26), UInt8.ofNat (97 + n % 26)]⟩) (w.alloc (.cells #[.int .u8 (97 + (n : Int) / 26), .int .u8 (97 + (n : Int) % 26)] 5)) := by
    refine run_convert_bytes_back _ 119 9 5 ⟨w.heap.size, 0, none⟩ 2 [UInt8.ofNat (97 + n / 26), UInt8.ofNat (97 + n % 26)] (by kernel_rfl) (by kernel_rfl) (by kernel_rfl) fun j hj => ?_
    have e : (⟨w.heap.size, 0, none⟩ : Addr).add j = ⟨w.heap.size, j, none⟩ := by unfold Addr.add; split <;> simp_all
    rw [e, cell_of_row _ _ _ _ _ _ (World.alloc_heap_new w _)]
    match j, hj with
    | 0, _ => simp; omega
    | 1, _ => simp; omega
  have hf : (⟨#[102, 105, 108, 101, 58, 47, 47, 47, 102, 105, 108, 108, 47, 102]⟩ : ByteArray) ++ ⟨#[UInt8.ofNat (97 + n / 26), UInt8.ofNat (97 + n % 26)]⟩ ++ ⟨#[46, 103, 111]⟩ = fillB n := by
    apply ByteArray.ext
    simp [fillB, fillL]
  have hsz := fill_size n
  obtain ⟨X, hX⟩ : ∃ X : ByteArray, (⟨#[UInt8.ofNat (97 + n / 26), UInt8.ofNat (97 + n % 26)]⟩ : ByteArray) = X := ⟨_, rfl⟩
  have hXs : X.size = 2 := by rw [← hX]; rfl
  rw [hX] at hback hf
  have HF := Lib.hid hf
  have HX := Lib.hid hXs
  have hx2 : X.size ≤ 2 := by omega
  clear hX hf hXs hsz
  go_enter Tryz.func52, Tryz.ntmps52
  go_wp2
  go_ret
  exact ⟨by rw [← HF.out]; rfl, (Below.refl _ _).alloc (Nat.le_refl _) _⟩
end Go.Proofs.Dc
/- A1: Acts in memory; the laws' large. -/
namespace Go.Proofs.Dc
open Go.RowKit Go.Proofs Go.Lib Go.Maps

/-- an act -/
structure Act where
  todo : Int
  uri : ByteArray
  text : ByteArray
  times : Int
  ver : Int
  lp : Option Addr
  ln : Nat
  lc : Nat
  l : List Chg
  fill : Int
structure ActAt (w : World) (p : Addr) (x : Act) : Prop where
  c0 : w.cell? p = some (.int .i64 x.todo)
  c1 : w.cell? ⟨p.block, p.off + 1, none⟩ = some (.string x.uri)
  c2 : w.cell? ⟨p.block, p.off + 2, none⟩ = some (.string x.text)
  c3 : w.cell? ⟨p.block, p.off + 3, none⟩ = some (.int .i64 x.times)
  c4 : w.cell? ⟨p.block, p.off + 4, none⟩ = some (.int .i64 x.ver)
  c5 : w.cell? ⟨p.block, p.off + 5, none⟩ = some (.slice x.lp x.ln x.lc)
  c6 : w.cell? ⟨p.block, p.off + 6, none⟩ = some (.int .u8 x.fill)
  chgs : ChgsAt w x.lp x.l
  len : x.ln = x.l.length
  lsz : x.ln ≤ maxLen
  usz : x.uri.size ≤ maxLen
  tsz : x.text.size ≤ maxLen
  flo : 0 ≤ x.fill
  fhi : x.fill ≤ 255
  blk : p.block < w.heap.size
theorem ActAt.below {w w' : World} {p : Addr} {x : Act} (h : ActAt w p x) (hb : Below w.heap.size w w') : ActAt w' p x :=
  ⟨(hb.cell h.blk).trans h.c0, (hb.cell (by exact h.blk)).trans h.c1, (hb.cell (by exact h.blk)).trans h.c2, (hb.cell (by exact h.blk)).trans h.c3, (hb.cell (by exact h.blk)).trans h.c4, (hb.cell (by exact h.blk)).trans h.c5, (hb.cell (by exact h.blk)).trans h.c6, h.chgs.below hb, h.len, h.lsz, h.usz, h.tsz, h.flo, h.fhi, Nat.lt_of_lt_of_le h.blk hb.size⟩
def ActsAt (w : World) (p : Option Addr) (l : List Act) : Prop := ∀ i x, l[i]? = some x → ∃ a, p = some a ∧ ActAt w (a.add (i * 7)) x
theorem ActsAt.below {w w' : World} {p : Option Addr} {l : List Act} (h : ActsAt w p l) (hb : Below w.heap.size w w') : ActsAt w' p l := fun i x hx => by
  obtain ⟨a, h1, h2⟩ := h i x hx
  exact ⟨a, h1, h2.below hb⟩
def okA (a : Act) : Prop := a.uri.size ≤ 300 ∧ a.text.size ≤ 300 ∧ a.l.length ≤ 8 ∧ ∀ x ∈ a.l, x.text.size ≤ 300
/-- is there more than is looked at? -/
def Small (l : List Act) : Prop := (∀ x ∈ l, okA x) ∧ l.length ≤ 12
/-- what large answers -/
noncomputable def largeB (l : List Act) : Bool := @decide (¬ Small l) (Classical.propDecidable _)
theorem large_true {l : List Act} (h : ¬ Small l) : largeB l = true := @decide_eq_true _ (Classical.propDecidable _) h
theorem large_false {l : List Act} (h : Small l) : largeB l = false := @decide_eq_false _ (Classical.propDecidable _) fun g => g h
theorem small_of {l : List Act} (h : largeB l = false) : Small l := Classical.not_not.1 (@of_decide_eq_false _ (Classical.propDecidable _) h)
set_option maxRecDepth 100000 in
set_option maxHeartbeats 4000000 in
theorem large_any (w : World) (p : Option Addr) (n c : Nat) (l : List Act) (hn : n = l.length) (hn2 : n ≤ maxLen) (hI : ActsAt w p l) :
    Calls Tryz.prog 9 #[.slice p n c] w fun e w' => e = .returned (.bool (largeB l)) ∧ w = w' := by
  unfold maxLen at hn2
  obtain ⟨B, hB⟩ : ∃ B, largeB l = B := ⟨_, rfl⟩
  have hbt := fun h => (large_true (l := l) h).symm.trans hB
  have hbf := fun h => (large_false (l := l) h).symm.trans hB
  rw [hB]
  have BT := Lib.hid hbt
  have BF := Lib.hid hbf
  have HI := Lib.hid hI
  have HN := Lib.hid hn
  clear hI hn hbt hbf hB
  go_enter Tryz.func9, Tryz.ntmps9
  go_wp2
  go_loop [3] (fun v => ∃ k : Nat, v = .int .i64 k ∧ k ≤ n ∧ k ≤ 20 ∧ ∀ j x, j < k → l[j]? = some x → okA x) (fun v => 20 - (RowKit.intOf v).toNat)
  case atStart => exact ⟨0, rfl, Nat.zero_le _, Nat.zero_le _, fun j x h => by omega⟩
  case round =>
    obtain ⟨k, rfl, hk, hk2, hok⟩ := hrel
    have HOK := Lib.hid hok
    clear hok
    by_cases hkn : (k : Int) < (n : Int)
    · by_cases hk20 : (k : Int) < 20
      · have hkl : k < l.length := by have := HN.out; omega
        obtain ⟨x, hx⟩ : ∃ x, l[k]? = some x := ⟨_, List.getElem?_eq_getElem hkl⟩
        obtain ⟨a, rfl, hA⟩ := HI.out k x hx
        have HC := Lib.hid hA.chgs
        have HL := Lib.hid hA.len
        have HX := Lib.hid hx
        obtain ⟨_, c1, c2, _, _, c5, _, _, _, z1, z2, z3, _, _, _⟩ := hA
        unfold maxLen at z1 z2 z3
        clear hx
        by_cases h1 : (300 : Int) < (x.uri.size : Int)
        · have hb := BT.out (fun h => by have := (h.1 x (List.mem_of_getElem? HX.out)).1; omega)
          subst hb
          go_wp2
          go_ret
          exact ⟨rfl, rfl⟩
        by_cases h2 : (300 : Int) < (x.text.size : Int)
        · have hb := BT.out (fun h => by have := (h.1 x (List.mem_of_getElem? HX.out)).2.1; omega)
          subst hb
          go_wp2
          go_ret
          exact ⟨rfl, rfl⟩
        by_cases h3 : (8 : Int) < (x.ln : Int)
        · have hb := BT.out (fun h => by have := (h.1 x (List.mem_of_getElem? HX.out)).2.2.1; have := HL.out; omega)
          subst hb
          go_wp2
          go_ret
          exact ⟨rfl, rfl⟩
        go_wp2
        go_loop [4] (fun v => ∃ q : Nat, v = .int .i64 q ∧ q ≤ x.ln ∧ ∀ j y, j < q → x.l[j]? = some y → y.text.size ≤ 300) (fun v => x.ln - (RowKit.intOf v).toNat)
        case atStart => exact ⟨0, rfl, Nat.zero_le _, fun j x h => by omega⟩
        case round =>
          obtain ⟨q, rfl, hq, hoq⟩ := hrel
          have HOQ := Lib.hid hoq
          clear hoq
          by_cases hqn : (q : Int) < (x.ln : Int)
          · have hql : q < x.l.length := by have := HL.out; omega
            obtain ⟨y, hy⟩ : ∃ y, x.l[q]? = some y := ⟨_, List.getElem?_eq_getElem hql⟩
            obtain ⟨a2, ha2, hA2⟩ := HC.out q y hy
            have HY := Lib.hid hy
            obtain ⟨_, _, _, _, _, d5, dz, _⟩ := hA2
            unfold maxLen at dz
            rw [ha2] at c5
            clear hy ha2
            by_cases h4 : (300 : Int) < (y.text.size : Int)
            · have hb := BT.out (fun h => by have := (h.1 x (List.mem_of_getElem? HX.out)).2.2.2 y (List.mem_of_getElem? HY.out); omega)
              subst hb
              go_wp2
              go_ret
              exact ⟨rfl, rfl⟩
            · go_wp2
              go_round
              case rel => exact ⟨q + 1, by go_num, by omega, fun j z hj hz => by
                by_cases e : j = q
                · subst e
                  rw [HY.out] at hz
                  cases hz
                  omega
                · exact HOQ.out j z (by omega) hz⟩
              case measure => simp [RowKit.intOf]; omega
          · go_wp2
            go_round
            case rel => exact ⟨k + 1, by go_num, by omega, by omega, fun j z hj hz => by
              by_cases e : j = k
              · subst e
                rw [HX.out] at hz
                cases hz
                refine ⟨by omega, by omega, by have := HL.out; omega, fun y hy => ?_⟩
                obtain ⟨i, hi⟩ := List.getElem?_of_mem hy
                exact HOQ.out i y (by have := (List.getElem?_eq_some_iff.1 hi).1; have := HL.out; omega) hi
              · exact HOK.out j z (by omega) hz⟩
            case measure => simp [RowKit.intOf]; omega
      · have h12 : (12 : Int) < (n : Int) := by omega
        have hb := BT.out (fun h => by have := h.2; have := HN.out; omega)
        subst hb
        go_wp2
        go_ret
        exact ⟨rfl, rfl⟩
    · have hall : ∀ x ∈ l, okA x := fun x hx => by
        obtain ⟨i, hi⟩ := List.getElem?_of_mem hx
        exact HOK.out i x (by have := (List.getElem?_eq_some_iff.1 hi).1; have := HN.out; omega) hi
      by_cases h12 : (12 : Int) < (n : Int)
      · have hb := BT.out (fun h => by have := h.2; have := HN.out; omega)
        subst hb
        clear hall
        go_wp2
        go_ret
        exact ⟨rfl, rfl⟩
      · have hb := BF.out ⟨hall, by have := HN.out; omega⟩
        subst hb
        clear hall
        go_wp2
        go_ret
        exact ⟨rfl, rfl⟩
end Go.Proofs.Dc
/- D21: The laws' text: a text so many times. -/
namespace Go.Proofs.Dc
open Go.RowKit Go.Proofs Go.Lib Go.Maps

/-- the text that is built -/
def repG : Nat → Int → List UInt8 → List UInt8 → Int → List UInt8
  | 0, _, acc, _, _ => acc
  | n + 1, i, acc, t, times => if i < times ∧ acc.length ≤ 70000 then repG n (i + 1) (acc ++ t) t times else acc
def repT (t : List UInt8) (times : Int) : List UInt8 := repG 19999 1 t t times
theorem repG_size : ∀ (n : Nat) (i : Int) (acc t : List UInt8) (times : Int), t.length ≤ 300 → acc.length ≤ 70300 → (repG n i acc t times).length ≤ 70300
  | 0, i, acc, t, times, _, h => h
  | n + 1, i, acc, t, times, ht, h => by
    rw [repG]
    split
    · rename_i hc
      exact repG_size n _ _ t times ht (by rw [List.length_append]; omega)
    · exact h
theorem repT_size {t : List UInt8} (times : Int) (h : t.length ≤ 300) : (repT t times).length ≤ 70300 := repG_size _ _ _ _ _ h (by omega)
/-- bytes of the call's own; what may be frozen lies behind them -/
def OwnB (w : World) (base : Nat) (v : Value) (l : List UInt8) : Prop :=
  ∃ g cap cur fz, v = .slice (some ⟨g, 0, none⟩) l.length cap ∧ base ≤ g ∧ w.heap[g]? = some (.cells cur 5 fz) ∧ (fz = (0, 0) ∨ cap ≤ fz.1) ∧ l.length ≤ cap ∧ cap ≤ maxLen ∧ cur.size = cap ∧ cur.toList.take l.length = l.map fun b => Value.int .u8 b.toNat
theorem OwnB.block {w : World} {base : Nat} {v : Value} {l : List UInt8} (h : OwnB w base v l) : ∃ g cap, v = .slice (some ⟨g, 0, none⟩) l.length cap ∧ base ≤ g ∧ l.length ≤ cap ∧ cap ≤ maxLen := by
  obtain ⟨g, cap, cur, fz, h1, h2, _, _, h3, h4, _⟩ := h
  exact ⟨g, cap, h1, h2, h3, h4⟩
theorem run_storeB (g o : Nat) (fz : Nat × Nat) : ∀ (vs : List Value) (i : Nat) (cur : Array Value) (w : World), w.heap[g]? = some (.cells cur 5 fz) → (fz = (0, 0) ∨ cur.size ≤ fz.1) → o + i + vs.length ≤ cur.size → (∀ v ∈ vs, v.oneCell' = true) →
    (storeCells ⟨g, o, none⟩ vs i).run Tryz.prog w = .ok () (w.setRow g (cur.toList.take (o + i) ++ vs ++ cur.toList.drop (o + i + vs.length)).toArray)
  | [], i, cur, w, hg, _, _, _ => by
    simp only [storeCells, List.append_nil, List.length_nil, Nat.add_zero, List.take_append_drop, Array.toArray_toList]
    rw [setRow_self w g cur 5 fz hg]
    rfl
  | v :: rest, i, cur, w, hg, hfz, hl, h1 => by
    have hi : o + i < cur.size := by simp at hl; omega
    have hadd : (⟨g, o, none⟩ : Addr).add i = ⟨g, o + i, none⟩ := by unfold Addr.add; split <;> simp_all
    have hcell : w.cell? ⟨g, o + i, none⟩ = some cur[o + i] := by simp [World.cell?, hg, hi]
    have hfro : w.frozen? ⟨g, o + i, none⟩ = false := by
      obtain ⟨lo, up⟩ := fz
      simp only [World.frozen?, hg, Bool.and_eq_false_iff, decide_eq_false_iff_not]
      rcases hfz with h | h
      · right
        have := congrArg Prod.snd h
        simp only at this
        omega
      · left
        simp only at h
        omega
    have hst : (store ((⟨g, o, none⟩ : Addr).add i) v).run Tryz.prog w = .ok () (w.setRow g (cur.setIfInBounds (o + i) v)) := by
      rw [hadd, run_store Tryz.prog w _ v _ (h1 v (by simp)), hcell]
      simp [hfro, setCell_eq_setRow w g (o + i) cur 5 fz v hg]
    have ih := run_storeB g o fz rest (i + 1) (cur.setIfInBounds (o + i) v) (w.setRow g (cur.setIfInBounds (o + i) v)) (setRow_heap w g cur _ 5 _ hg) (by simpa using hfz) (by simp at hl ⊢; omega) (fun x hx => h1 x (by simp [hx]))
    simp only [storeCells, Sem.run_bind, hst, Result.andThen_ok, ih, setRow_setRow]
    congr 3
    have e := list_seg_step cur.toList (o + i) v rest (by simp at hl ⊢; omega)
    simpa [Array.toList_setIfInBounds, Nat.add_assoc] using e
theorem infoB {t : TypeId} {z : Option Value} {n m : Nat} (h : (Tryz.prog.info? t).map (fun i => (i.zero, i.size, i.bytes)) = some (z, n, m)) : ∃ i, Tryz.prog.info? t = some i ∧ i.zero = z ∧ i.size = n ∧ i.bytes = m := by
  cases e : Tryz.prog.info? t with
  | none => simp [e] at h
  | some i => simp [e] at h; exact ⟨i, rfl, h.1, h.2.1, h.2.2⟩
theorem info5 : (Tryz.prog.info? 5).map (fun i => (i.zero, i.size, i.bytes)) = some (some (.int .u8 0), 1, 1) := by kernel_rfl
theorem strCells_map (s : ByteArray) : strCells s = s.data.toList.map fun b => Value.int .u8 b.toNat := rfl
/-- one more text is appended -/
theorem append_B (w : World) (base : Nat) (v : Value) (l : List UInt8) (h : OwnB w base v l) (s : ByteArray) (hb : base ≤ w.heap.size) (hs : l.length + s.size ≤ 1000000) :
    ∃ v' w', (Builtin.append_ #[119, 9] 119 #[v, .string s]).run Tryz.prog w = .ok v' w' ∧ OwnB w' base v' (l ++ s.data.toList) ∧ Below base w w' := by
  obtain ⟨i, hi, hz0, hz1, hz2⟩ := infoB info5
  obtain ⟨g, cap, cur, fz, rfl, hbg, hg, hfz, hlc, hcm, hcs, htake⟩ := h
  have hlen : (l ++ s.data.toList).length = l.length + s.size := by rw [List.length_append, ← Lib.size_eq]
  have hmap : (l ++ s.data.toList).map (fun b => Value.int .u8 b.toNat) = (l.map fun b => Value.int .u8 b.toNat) ++ strCells s := by rw [List.map_append, strCells_map]
  have hll : (l.map fun b => Value.int .u8 (b.toNat : Int)).length = l.length := by simp
  by_cases hroom : l.length + s.size ≤ cap
  · have hf := run_firstCells_string (P := Tryz.prog) w 1 s
    have hst := run_storeB g l.length fz (strCells s) 0 cur w hg (by rw [hcs]; exact hfz) (by rw [strCells_length, hcs]; omega) (strCells_oneCell s)
    simp only [Nat.add_zero, strCells_length] at hst
    have hr : (Builtin.append_ #[119, 9] 119 #[.slice (some ⟨g, 0, none⟩) l.length cap, .string s]).run Tryz.prog w = .ok (.slice (some ⟨g, 0, none⟩) (l.length + s.size) cap) (w.setRow g (cur.toList.take l.length ++ strCells s ++ cur.toList.drop (l.length + s.size)).toArray) := by
      simp [Builtin.append_, run_underlying Tryz.underlying119, run_underlying Tryz.underlying9, Go.sizeOf, typeInfo, hi, hz1, Builtin.lenOf, hroom, hf, Addr.add_lit, hst]
    refine ⟨_, _, hr, ⟨g, cap, _, fz, by rw [hlen], hbg, setRow_heap w g cur _ 5 _ hg, hfz, by omega, hcm, ?_, ?_⟩, (Below.refl _ _).grown (row := some g) ⟨rfl, rfl, rfl, by simp, fun k _ hk => setRow_other w g k _ (fun e => hk (by rw [e]))⟩ hb (fun k e => by cases e; exact hbg)⟩
    · simp only [List.size_toArray, List.length_append, List.length_take, List.length_drop, Array.length_toList, strCells_length]
      omega
    · rw [htake, hmap, hlen]
      have : l.length + s.size = ((l.map fun b => Value.int .u8 (b.toNat : Int)) ++ strCells s).length := by rw [List.length_append, hll, strCells_length]
      rw [this]
      exact List.take_left
  · have holds : ∀ j u, (l.map fun b => Value.int .u8 (b.toNat : Int))[j]? = some u → w.cell? ((⟨g, 0, none⟩ : Addr).add j) = some u := fun j u hu => by
      have hadd : (⟨g, 0, none⟩ : Addr).add j = ⟨g, j, none⟩ := by unfold Addr.add; split <;> simp_all
      rw [hadd, Go.cell_of_row w g j cur 5 fz hg]
      rw [← htake, List.getElem?_take] at hu
      split at hu
      · simpa using hu
      · cases hu
    have hr := run_append_grow_string (P := Tryz.prog) w 119 9 119 5 i (.int .u8 0) Tryz.underlying119 Tryz.underlying9 hi hz0 ⟨g, 0, none⟩ l.length cap (l.map fun b => Value.int .u8 (b.toNat : Int)) (by rw [hz1, hll, Nat.mul_one]) holds s (by omega) (by omega) (by rw [hz2]; exact growslice_fits (by omega) (by unfold maxLen at hcm; omega))
    have hge := grownCap_ge w (l.length + s.size) cap 5
    have hcm2 : grownCap w (l.length + s.size) cap 5 ≤ maxLen := grownCap_le_maxLen w (l.length + s.size) cap 5 (by unfold maxLen; omega)
    refine ⟨_, _, hr, ⟨w.heap.size, _, _, (0, 0), by rw [hlen], hb, Go.heap_alloc_new w.drew _, .inl rfl, by rw [hlen]; exact hge, hcm2, ?_, ?_⟩, (Below.refl base w).grown (row := none) ⟨rfl, rfl, rfl, by simp, fun k hk _ => Below.heap_alloc w.drew _ k hk⟩ hb (fun k e => by cases e)⟩
    · have hz3 : (Value.int IntKind.u8 0).cells.size = 1 := rfl
      simp only [Array.size_append, List.size_toArray, size_zeroCells, hz3, hll, strCells_length]
      omega
    · simp only [Array.toList_append, List.append_assoc]
      rw [hmap, hlen]
      have : l.length + s.size = ((l.map fun b => Value.int .u8 (b.toNat : Int)) ++ strCells s).length := by rw [List.length_append, hll, strCells_length]
      rw [this, ← List.append_assoc]
      exact List.take_left
theorem wpList_append_B {w w' : World} {ops : Array Oper} {rest : List Oper} {o : Oper} {a : Go.Act} {Q : Exit → Go.Act → World → Prop} (hgd : o.guard = none) (sl x : Operand)
    (ho : o.op = .call { callee := .builtin .append, args := #[sl, x], argTypes := #[119, 9] }) (hty : o.type = 119) (v v' : Value) (s : ByteArray) (hs : a.eval sl = v) (hx : a.eval x = .string s)
    (hrun : (Builtin.append_ #[119, 9] 119 #[v, .string s]).run Tryz.prog w = .ok v' w') (h : wpList Tryz.prog ops Q rest (a.put o.dst v') w') : wpList Tryz.prog ops Q (o :: rest) a w := by
  refine wpList_plain hgd fun K hK => ?_
  unfold Oper.wp execOp
  simp only [ho, hty, resolve, invoke, builtin, Sem.run_bind, Sem.run_pure, Result.andThen_ok, List.map_toArray, List.map_cons, List.map_nil, hs, hx, hrun]
  exact hK _ _ h
theorem own_start (w : World) (s : ByteArray) (hs : s.size ≤ 1000000) : OwnB (bytesWorld w 5 s) w.heap.size (.slice (some ⟨w.heap.size, 0, none⟩) s.size (grownCap w s.size 0 5)) s.data.toList := by
  have hge := grownCap_ge w s.size 0 5
  have hsz : (bytesCells w 5 s).size = grownCap w s.size 0 5 := by
    simp [bytesCells]
    have : s.data.size = s.size := rfl
    omega
  refine ⟨w.heap.size, _, _, _, by rw [← Lib.size_eq], Nat.le_refl _, bytesWorld_at_new w 5 s, .inr (by rw [hsz]; exact Nat.le_refl _), by rw [← Lib.size_eq]; exact hge, grownCap_le_maxLen w s.size 0 5 (by unfold maxLen; omega), hsz, ?_⟩
  unfold bytesCells
  rw [Array.toList_append, Array.toList_map]
  have : s.data.toList.length = (s.data.toList.map fun b => Value.int .u8 (b.toNat : Int)).length := by simp
  rw [this]
  exact List.take_left
/-- the bytes as a text -/
theorem back_B {w : World} {base : Nat} {v : Value} {l : List UInt8} (h : OwnB w base v l) : (convert 119 9 v).run Tryz.prog w = .ok (.string ⟨l.toArray⟩) w := by
  obtain ⟨g, cap, cur, fz, rfl, hbg, hg, hfz, hlc, hcm, hcs, htake⟩ := h
  refine run_convert_bytes_back _ 119 9 5 ⟨g, 0, none⟩ cap l (by kernel_rfl) (by kernel_rfl) (by kernel_rfl) fun j hj => ?_
  have hadd : (⟨g, 0, none⟩ : Addr).add j = ⟨g, j, none⟩ := by unfold Addr.add; split <;> simp_all
  rw [hadd, Go.cell_of_row w g j cur 5 fz hg]
  have e : (cur.toList.take l.length)[j]? = some (.int .u8 (l[j].toNat : Int)) := by rw [htake]; simp [hj]
  rw [List.getElem?_take_of_lt hj] at e
  simpa using e
theorem repG_step {n : Nat} {i : Int} {acc t : List UInt8} {times : Int} (h : i < times ∧ acc.length ≤ 70000) : repG (n + 1) i acc t times = repG n (i + 1) (acc ++ t) t times := by rw [repG, if_pos h]
theorem repG_stop {n : Nat} {i : Int} {acc t : List UInt8} {times : Int} (h : ¬ (i < times ∧ acc.length ≤ 70000)) : repG n i acc t times = acc := by
  cases n with
  | zero => rfl
  | succ n => rw [repG, if_neg h]
def actVal (x : Act) : Value := .agg #[.int .i64 x.todo, .string x.uri, .string x.text, .int .i64 x.times, .int .i64 x.ver, .slice x.lp x.ln x.lc, .int .u8 x.fill]
set_option maxRecDepth 100000 in
set_option maxHeartbeats 2000000 in
theorem text_any (a : Int) (u t : ByteArray) (times ver : Int) (p : Option Addr) (n c : Nat) (f : Int) (w : World) (ht : t.size ≤ 300) :
    Calls Tryz.prog 54 #[.agg #[.int .i64 a, .string u, .string t, .int .i64 times, .int .i64 ver, .slice p n c, .int .u8 f]] w fun e w' => e = .returned (.string ⟨(repT t.data.toList times).toArray⟩) ∧ Below w.heap.size w w' := by
  obtain ⟨V, hV⟩ : ∃ V, w.alloc (.cells #[.int .i64 a, .string u, .string t, .int .i64 times, .int .i64 ver, .slice p n c, .int .u8 f] 35) = V := ⟨_, rfl⟩
  have hVh : V.heap[w.heap.size]? = some (.cells #[.int .i64 a, .string u, .string t, .int .i64 times, .int .i64 ver, .slice p n c, .int .u8 f] 35) := by rw [← hV]; exact World.alloc_heap_new w _
  have hVs : V.heap.size = w.heap.size + 1 := by rw [← hV]; simp
  have hVB : Below w.heap.size w V := by rw [← hV]; exact (Below.refl _ _).alloc (Nat.le_refl _) _
  have hcv := Lib.run_convert_string_bytes (P := Tryz.prog) V 9 119 5 t Tryz.underlying9 Tryz.underlying119 Tryz.underlying5
  have hst := own_start V t (by omega)
  have hb0 := Joins.below_bytesWorld V.heap.size V 5 t (Nat.le_refl _)
  obtain ⟨W, hW⟩ : ∃ W, bytesWorld V 5 t = W := ⟨_, rfl⟩
  obtain ⟨cap, hcap⟩ : ∃ cap, grownCap V t.size 0 5 = cap := ⟨_, rfl⟩
  rw [hW, hcap] at hcv hst
  rw [hW] at hb0
  have hcells : ∀ w1, Below V.heap.size V w1 → w1.cell? ⟨w.heap.size, 2, none⟩ = some (.string t) ∧ w1.cell? ⟨w.heap.size, 3, none⟩ = some (.int .i64 times) := fun w1 hb => by
    have h1 := (hb.block w.heap.size (by omega)).trans hVh
    constructor <;> simp [World.cell?, h1]
  obtain ⟨e2, e3⟩ := hcells V (Below.refl _ _)
  obtain ⟨R, hR⟩ : ∃ R, repT t.data.toList times = R := ⟨_, rfl⟩
  rw [hR]
  unfold repT at hR
  have HR := Lib.hid hR
  have HST := Lib.hid hst
  have hsl := Lib.size_eq t
  have HSL := Lib.hid hsl
  have HC := Lib.hid hcells
  have hVB2 : ∀ {w'}, Below V.heap.size V w' → Below w.heap.size w w' := fun h => hVB.trans (h.mono hVB.size)
  have HB2 : Hid (∀ {w'}, Below V.heap.size V w' → Below w.heap.size w w') := Lib.hid hVB2
  have HVS := Lib.hid hVs
  clear hR hst hW hcap hVh hsl hcells hVB hVB2 hVs
  go_enter Tryz.func54, Tryz.ntmps54
  go_wp2
  clear hV
  go_loopw [3, 4] (fun bv iv wr => ∃ (k : Nat) (acc : List UInt8), iv = .int .i64 k ∧ 1 ≤ k ∧ k ≤ 20000 ∧ OwnB wr V.heap.size bv acc ∧ acc.length ≤ 70300 ∧ repG (20000 - k) k acc t.data.toList times = R ∧ Below V.heap.size V wr) (fun _ iv _ => 20000 - (RowKit.intOf iv).toNat)
  case atStart => exact ⟨1, t.data.toList, rfl, Nat.le_refl _, by decide, HST.out, by rw [← Lib.size_eq]; omega, HR.out, hb0⟩
  case round =>
    obtain ⟨k, acc, rfl, hk1, hk2, hown, hacc, hrep, hB⟩ := hrel
    obtain ⟨g, cp, rfl, hbg, hlc, hcm⟩ := hown.block
    obtain ⟨c2, c3⟩ := HC.out wr hB
    have hzB := hB.size
    clear hcv e2 e3 hb0
    by_cases h1 : (k : Int) < times
    · by_cases h2 : (k : Int) < 20000
      · by_cases h3 : (acc.length : Int) ≤ 70000
        · obtain ⟨m, hm⟩ : ∃ m, 20000 - k = m + 1 := ⟨20000 - k - 1, by omega⟩
          have hnext : repG (20000 - (k + 1)) ((k + 1 : Nat) : Int) (acc ++ t.data.toList) t.data.toList times = R := by
            rw [hm, repG_step ⟨h1, by omega⟩] at hrep
            rw [show 20000 - (k + 1) = m by omega]
            exact hrep
          obtain ⟨v', w', hrun, hown', hb'⟩ := append_B wr V.heap.size _ acc hown t hzB (by omega)
          obtain ⟨g', cp', rfl, hbg', hlc', hcm'⟩ := hown'.block
          have HRUN := Lib.hid hrun
          have HN := Lib.hid hnext
          have HO := Lib.hid hown'
          have hlen : (acc ++ t.data.toList).length ≤ 70300 := by rw [List.length_append, ← HSL.out]; omega
          generalize acc ++ t.data.toList = A2 at *
          clear hnext hown' hown hrep hm hrun
          go_wp2_with (first | (at_builtin; refine wpList_append_B rfl _ _ rfl rfl _ _ _ rfl rfl HRUN.out ?_))
          go_roundw
          case rel => exact ⟨k + 1, A2, by go_num, by omega, by omega, HO.out, hlen, HN.out, hB.trans hb'⟩
          case measure => simp [RowKit.intOf]; omega
        · have hfin : acc = R := by rw [← hrep]; exact (repG_stop (by omega)).symm
          have hback := back_B hown
          subst hfin
          clear hown hrep
          go_wp2
          go_ret
          exact ⟨rfl, HB2.out hB⟩
      · have hfin : acc = R := by rw [← hrep, show 20000 - k = 0 by omega]; rfl
        have hback := back_B hown
        subst hfin
        clear hown hrep
        go_wp2
        go_ret
        exact ⟨rfl, HB2.out hB⟩
    · have hfin : acc = R := by rw [← hrep]; exact (repG_stop (by omega)).symm
      have hback := back_B hown
      subst hfin
      clear hown hrep
      go_wp2
      go_ret
      exact ⟨rfl, HB2.out hB⟩
end Go.Proofs.Dc
/- D22: What open documents keep, whatever is done. No program in sight. -/
namespace Go.Proofs.Dc
open Go.Lib

/-- what all open documents are -/
structure Inv (L : List Doc) : Prop where
  ord : Ord L
  len : L.length ≤ 32
  all : ∀ d ∈ L, (dirV d.uri).isSome = true ∧ validD d.text = true ∧ d.text.length ≤ 65536
theorem Inv.nil : Inv [] := ⟨Ord.nil, Nat.zero_le _, fun d hd => by cases hd⟩
theorem mayE_zero {t : List UInt8} (h : mayE t = 0) : validD t = true ∧ t.length ≤ 65536 := by
  unfold mayE at h
  split at h
  · omega
  · rename_i hv
    split at h
    · omega
    · exact ⟨by simpa using hv, by omega⟩
theorem openE_zero {L : List Doc} {u t : List UInt8} (h : openE L u t = 0) : (dirV u).isSome = true ∧ getD? L u = none ∧ L.length < 32 ∧ validD t = true ∧ t.length ≤ 65536 := by
  unfold openE at h
  split at h
  · omega
  · rename_i h1
    split at h
    · omega
    · rename_i h2
      split at h
      · omega
      · exact ⟨Bool.of_not_eq_false h1, by simpa using h2, by omega, mayE_zero h⟩
theorem put_new {L : List Doc} {d : Doc} (h : getD? L d.uri = none) : putD d L = insD d L := by
  unfold putD
  rw [without_none h]
theorem Inv.opened {L : List Doc} (h : Inv L) (u t : List UInt8) (v : Int) : Inv (openL L u t v) := by
  unfold openL
  split
  · rename_i he
    obtain ⟨h1, h2, h3, h4, h5⟩ := openE_zero he
    refine ⟨h.ord.put _, ?_, fun d hd => ?_⟩
    · rw [put_new (d := ⟨u, t, v⟩) h2, length_ins]; omega
    · rcases mem_put hd with rfl | hd
      · exact ⟨h1, h4, h5⟩
      · exact h.all d hd
  · exact h
theorem Inv.closed {L : List Doc} (h : Inv L) (u : List UInt8) : Inv (without u L) :=
  ⟨h.ord.without u, Nat.le_trans (List.length_filter_le _ _) h.len, fun d hd => h.all d (List.mem_filter.1 hd).1⟩
theorem without_lt {L : List Doc} {u : List UInt8} {d : Doc} (h : getD? L u = some d) : (without u L).length < L.length := by
  obtain ⟨h1, h2⟩ := get_mem h
  exact List.length_filter_lt_length_iff_exists.2 ⟨d, h1, by simp [h2]⟩
theorem Inv.changed {L : List Doc} (h : Inv L) (u : List UInt8) (v : Int) (cs : List Chg) : Inv (chgL L u v cs) := by
  unfold chgL
  split
  · exact h
  · rename_i d hg
    split
    · exact h
    · split
      · rename_i he
        obtain ⟨h1, h2⟩ := get_mem hg
        obtain ⟨a1, a2, a3⟩ := h.all d h1
        have hts : (textB d).data.toList = d.text := rfl
        refine ⟨h.ord.put _, ?_, fun x hx => ?_⟩
        · unfold putD
          rw [length_ins]
          have k1 := without_lt hg
          have k2 := h.len
          simp only
          omega
        · rcases mem_put hx with rfl | hx
          · refine ⟨by rw [← h2]; exact a1, after_valid (s := textB d) (by rw [hts]; exact a2) he, ?_⟩
            have := afterV_size (textB d) cs
            rw [Lib.size_eq, Lib.size_eq, hts] at this
            simp only
            omega
          · exact h.all x hx
      · exact h
theorem open_keep {L : List Doc} {u' : List UInt8} {d : Doc} (h : getD? L u' = some d) (u t : List UInt8) (v : Int) : getD? (openL L u t v) u' = some d := by
  unfold openL
  split
  · rename_i he
    obtain ⟨_, h2, _⟩ := openE_zero he
    rw [get_put_other L ⟨u, t, v⟩ (fun e => by rw [e, h2] at h; cases h)]
    exact h
  · exact h
theorem chg_rise {L : List Doc} {u : List UInt8} {d : Doc} (h : getD? L u = some d) (v : Int) (cs : List Chg) : ∃ d2, getD? (chgL L u v cs) u = some d2 ∧ (d2 = d ∨ d.ver < d2.ver) := by
  unfold chgL
  rw [h]
  simp only
  split
  · exact ⟨d, h, .inl rfl⟩
  · split
    · exact ⟨_, get_put L ⟨u, _, v⟩, .inr (by simp only; omega)⟩
    · exact ⟨d, h, .inl rfl⟩
/-- the documents behind the fillers -/
def fillsL : Nat → List Doc → List Doc
  | 0, L => L
  | n + 1, L => openL (fillsL n L) (fillL n) [] 1
theorem Inv.fills {L : List Doc} (h : Inv L) : ∀ n, Inv (fillsL n L)
  | 0 => h
  | n + 1 => (h.fills n).opened _ _ _
theorem fills_keep {L : List Doc} {u : List UInt8} {d : Doc} (h : getD? L u = some d) : ∀ n, getD? (fillsL n L) u = some d
  | 0 => h
  | n + 1 => open_keep (fills_keep h n) _ _ _
end Go.Proofs.Dc
/- A2: Changes and acts among the arguments. -/
namespace Go.Proofs.Dc
open Go.RowKit Go.Maps Go.Proofs Go.Lib Go.ChangeShapes Go.WideShapes Go.Deep

theorem laid_out : laidOutB Tryz.prog = true := by kernel_rfl
theorem cn3 : Tryz.prog.cellsOf 3 = 1 := by kernel_rfl
theorem cn4 : Tryz.prog.cellsOf 4 = 1 := by kernel_rfl
theorem cn9 : Tryz.prog.cellsOf 9 = 1 := by kernel_rfl
theorem cn2 : Tryz.prog.cellsOf 2 = 1 := by kernel_rfl
theorem cn5 : Tryz.prog.cellsOf 5 = 1 := by kernel_rfl
theorem cn26 : Tryz.prog.cellsOf 33 = 1 := by kernel_rfl
theorem cn29 : Tryz.prog.cellsOf 35 = 7 := by kernel_rfl
theorem cn50 : Tryz.prog.cellsOf 74 = 2 := by kernel_rfl
theorem cn52 : Tryz.prog.cellsOf 76 = 4 := by kernel_rfl
theorem cn54 : Tryz.prog.cellsOf 78 = 6 := by kernel_rfl
theorem add_at (a : Addr) (i j : Nat) (hj : 0 < j) : a.add (i + j) = ⟨(a.add i).block, (a.add i).off + j, none⟩ := by
  unfold Addr.add
  rw [if_neg (by omega)]
  split
  · rename_i h
    subst h
    simp
  · simp; omega
theorem one_cell {cs : List Value} {i : Nat} {v : Value} (h : (cs.drop i).take 1 = [v]) : cs[i]? = some v := by
  have := congrArg (·[0]?) h
  simpa [List.getElem?_take, List.getElem?_drop] using this
theorem sub_cell {cs : List Value} {o n i : Nat} {v : Value} (hi : i < n) (h : ((cs.drop o).take n)[i]? = some v) : cs[o + i]? = some v := by
  rw [List.getElem?_take, if_pos hi, List.getElem?_drop] at h
  exact h
section
variable {H : Type} {enc : TypeId × Value → H} {w : World} {base : Nat} {spare : Nat → Bool} {held : Bool}
theorem pos_trod {fuel : Nat} {cs : List Value} {x : DataW H × List MemPlace} (h : DataW.trod enc Tryz.prog w base spare held fuel 74 cs = some x) : ∃ a b : Int, cs[0]? = some (.int .i64 a) ∧ cs[1]? = some (.int .i64 b) := by
  obtain ⟨xs, m, _, _, hlen, hl, hf⟩ := DataW.trod_struct Tryz.underlying74 h
  match xs, hl with
  | [y0, y1], _ =>
    have h0 := hf 0 _ rfl
    have h1 := hf 1 _ rfl
    simp [cn3] at h0 h1
    obtain ⟨a, e0, _⟩ := DataW.trod_int (k := .i64) Tryz.underlying3 h0
    obtain ⟨b, e1, _⟩ := DataW.trod_int (k := .i64) Tryz.underlying3 h1
    exact ⟨a, b, one_cell (i := 0) (by simpa using e0), one_cell (i := 1) (by simpa using e1)⟩
theorem range_trod {fuel : Nat} {cs : List Value} {x : DataW H × List MemPlace} (h : DataW.trod enc Tryz.prog w base spare held fuel 76 cs = some x) : ∃ a b c d : Int, cs[0]? = some (.int .i64 a) ∧ cs[1]? = some (.int .i64 b) ∧ cs[2]? = some (.int .i64 c) ∧ cs[3]? = some (.int .i64 d) := by
  obtain ⟨xs, m, _, _, hlen, hl, hf⟩ := DataW.trod_struct Tryz.underlying76 h
  match xs, hl with
  | [y0, y1], _ =>
    have h0 := hf 0 _ rfl
    have h1 := hf 1 _ rfl
    simp [cn50] at h0 h1
    obtain ⟨a, b, e0, e1⟩ := pos_trod h0
    obtain ⟨c, d, e2, e3⟩ := pos_trod h1
    exact ⟨a, b, c, d, by simpa using sub_cell (o := 0) (n := 2) (i := 0) (by omega) (by simpa using e0), by simpa using sub_cell (o := 0) (n := 2) (i := 1) (by omega) (by simpa using e1), sub_cell (o := 2) (n := 2) (i := 0) (by omega) (by simpa using e2), sub_cell (o := 2) (n := 2) (i := 1) (by omega) (by simpa using e3)⟩
theorem change_trod {fuel : Nat} {cs : List Value} {x : DataW H × List MemPlace} (h : DataW.trod enc Tryz.prog w base spare held fuel 78 cs = some x) : ∃ y : Chg, cs[0]? = some (.bool y.whole) ∧ cs[1]? = some (.int .i64 y.a) ∧ cs[2]? = some (.int .i64 y.b) ∧ cs[3]? = some (.int .i64 y.c) ∧ cs[4]? = some (.int .i64 y.d) ∧ cs[5]? = some (.string y.text) ∧ y.text.size ≤ maxLen := by
  obtain ⟨xs, m, _, _, hlen, hl, hf⟩ := DataW.trod_struct Tryz.underlying78 h
  match xs, hl with
  | [y0, y1, y2], _ =>
    have h0 := hf 0 _ rfl
    have h1 := hf 1 _ rfl
    have h2 := hf 2 _ rfl
    simp [cn4] at h0
    simp [cn52] at h1
    simp [cn9] at h2
    obtain ⟨wh, e0, _⟩ := DataW.trod_bool Tryz.underlying4 h0
    obtain ⟨a, b, c, d, e1, e2, e3, e4⟩ := range_trod h1
    obtain ⟨t, e5, _, hs⟩ := DataW.trod_string Tryz.underlying9 h2
    exact ⟨⟨wh, a, b, c, d, t⟩, one_cell (i := 0) (by simpa using e0), sub_cell (o := 1) (n := 4) (i := 0) (by omega) (by simpa using e1), sub_cell (o := 1) (n := 4) (i := 1) (by omega) (by simpa using e2), sub_cell (o := 1) (n := 4) (i := 2) (by omega) (by simpa using e3), sub_cell (o := 1) (n := 4) (i := 3) (by omega) (by simpa using e4), one_cell e5, hs⟩
theorem chg_at {a : Addr} {i : Nat} {cs : List Value} (hc : w.cells? base (a.add (i * 6)) 6 = some cs) {fuel : Nat} {x : DataW H × List MemPlace} (h : DataW.trod enc Tryz.prog w base spare held fuel 78 cs = some x) : ∃ y, ChgAt w (a.add (i * 6)) y := by
  obtain ⟨y, e0, e1, e2, e3, e4, e5, hs⟩ := change_trod h
  obtain ⟨_, hcl, hat⟩ := World.cells?_some hc
  have hx : ∀ (j : Nat) (v : Value), 0 < j → j < 6 → cs[j]? = some v → w.cell? ⟨(a.add (i * 6)).block, (a.add (i * 6)).off + j, none⟩ = some v := fun j v hj0 hj hv => by
    rw [← add_at a (i * 6) j hj0, ← Go.Deep.add_add, hat j hj]
    exact hv
  have h0 : w.cell? (a.add (i * 6)) = some (.bool y.whole) := by
    have := hat 0 (by omega)
    rw [show (a.add (i * 6)).add 0 = a.add (i * 6) by simp [Addr.add]] at this
    exact this.trans e0
  exact ⟨y, h0, hx 1 _ (by omega) (by omega) e1, hx 2 _ (by omega) (by omega) e2, hx 3 _ (by omega) (by omega) e3, hx 4 _ (by omega) (by omega) e4, hx 5 _ (by omega) (by omega) e5, hs, World.block_lt_of_cell? w _ h0⟩
theorem list_of {α : Type} (n : Nat) (p : Nat → α → Prop) (h : ∀ i, i < n → ∃ y, p i y) : ∃ l : List α, l.length = n ∧ ∀ i y, l[i]? = some y → p i y := by
  induction n with
  | zero => exact ⟨[], rfl, fun i y h => by simp at h⟩
  | succ n ih =>
    obtain ⟨l, hl, hp⟩ := ih fun i hi => h i (by omega)
    obtain ⟨y, hy⟩ := h n (by omega)
    refine ⟨l ++ [y], by simp [hl], fun i z hz => ?_⟩
    by_cases hi : i < n
    · rw [List.getElem?_append_left (by omega)] at hz
      exact hp i z hz
    · have hi2 : i = n := by
        have := (List.getElem?_eq_some_iff.1 hz).1
        simp [hl] at this
        omega
      subst hi2
      rw [List.getElem?_append_right (by omega), hl, Nat.sub_self] at hz
      obtain rfl := Option.some.inj hz
      exact hy
set_option maxRecDepth 100000 in
theorem changes_trod {fuel : Nat} {cs : List Value} {x : DataW H × List MemPlace} (h : DataW.trod enc Tryz.prog w base spare held fuel 33 cs = some x) : ∃ (p : Option Addr) (n c : Nat), cs = [.slice p n c] ∧ n ≤ maxLen ∧ ∃ l : List Chg, n = l.length ∧ n ≤ c ∧ ChgsAt w p l := by
  rcases open_slice Tryz.underlying33 h with ⟨hcs, _⟩ | ⟨a, len, cap, m, n, D, Pl, hcs, _, hl, hm, hz, _, hcell⟩
  · exact ⟨_, _, _, hcs, Nat.zero_le _, [], rfl, Nat.le_refl _, fun i x hx => by simp at hx⟩
  · have hlm : len ≤ m := by rw [hz]; split <;> omega
    obtain ⟨l, hll, hp⟩ := list_of len (fun i y => ChgAt w (a.add (i * 6)) y) fun i hi => by
      obtain ⟨cs', hc, ht⟩ := hcell i (by omega)
      rw [cn54] at hc
      exact chg_at hc ht
    exact ⟨_, _, _, hcs, Nat.le_trans hl hm, l, hll.symm, hl, fun i x hx => ⟨a, rfl, hp i x hx⟩⟩
set_option maxRecDepth 100000 in
theorem changes_arg {v : Value} {d : DataW H} {ps : List MemPlace} (hv : Value.okWide Tryz.prog w .any base 33 v) (h : DataW.Trod enc Tryz.prog w 0 (fun _ => true) true 33 v d ps) :
    ∃ (p : Option Addr) (n c : Nat), v = .slice p n c ∧ n ≤ maxLen ∧ ∃ l : List Chg, n = l.length ∧ n ≤ c ∧ ChgsAt w p l := by
  obtain ⟨a0, len, cap, rfl⟩ := okWide_slice Tryz.underlying33 hv
  obtain ⟨fuel, hf⟩ := h
  obtain ⟨p, n, c, hcs, hn, l, hl, hlc, hI⟩ := changes_trod hf
  simp [Value.cells] at hcs
  obtain ⟨rfl, rfl, rfl⟩ := hcs
  exact ⟨_, _, _, rfl, hn, l, hl, hlc, hI⟩
end
end Go.Proofs.Dc
/- D23: The laws' round: what its middle knows; All's answer as cells. -/
namespace Go.Proofs.Dc
open Go.RowKit Go.Proofs Go.Lib Go.Maps Go.Shelf

/-- a document's own block -/
structure Keep (w wr : World) (b M g : Nat) (L : List Doc) (U T : ByteArray) (V : Int) : Prop where
  dv : DV wr b M L
  bel : Below w.heap.size w wr
  box : wr.heap[g]? = some (.cells #[.string U, .string T, .int .i64 V] 53 (0, 0))
  ne : g ≠ M
  lo : w.heap.size ≤ M
theorem Keep.grown {w wr w' : World} {b M g : Nat} {L L' : List Doc} {U T : ByteArray} {V : Int} (h : Keep w wr b M g L U T V) (hg : wr.grownBy w' (some M)) (hd : DV w' b M L') : Keep w w' b M g L' U T V :=
  ⟨hd, h.bel.trans (below_gb h.lo h.bel.size hg), (hg.block g (Array.getElem?_eq_some_iff.1 h.box).1 (by intro e; exact h.ne (Option.some.inj e))).trans h.box, h.ne, h.lo⟩
theorem Keep.below {w wr w' : World} {b M g : Nat} {L : List Doc} {U T : ByteArray} {V : Int} (h : Keep w wr b M g L U T V) (hb : Below wr.heap.size wr w') : Keep w w' b M g L U T V :=
  ⟨h.dv.below hb, h.bel.trans (hb.mono h.bel.size), (hb.block g (Array.getElem?_eq_some_iff.1 h.box).1).trans h.box, h.ne, h.lo⟩
theorem Keep.cells {w wr : World} {b M g : Nat} {L : List Doc} {U T : ByteArray} {V : Int} (h : Keep w wr b M g L U T V) :
    wr.cell? ⟨g, 0, none⟩ = some (.string U) ∧ wr.cell? ⟨g, 1, none⟩ = some (.string T) ∧ wr.cell? ⟨g, 2, none⟩ = some (.int .i64 V) := by
  have := h.box
  refine ⟨?_, ?_, ?_⟩ <;> simp [World.cell?, this]
/-- a document among cells -/
structure DocA (w : World) (p : Addr) (d : Doc) : Prop where
  c0 : w.cell? p = some (.string ⟨d.uri.toArray⟩)
  c1 : w.cell? ⟨p.block, p.off + 1, none⟩ = some (.string ⟨d.text.toArray⟩)
  c2 : w.cell? ⟨p.block, p.off + 2, none⟩ = some (.int .i64 d.ver)
theorem DocA.below {w w' : World} {p : Addr} {d : Doc} (h : DocA w p d) (hb : Below w.heap.size w w') : DocA w' p d := by
  have hl := World.block_lt_of_cell? w _ h.c0
  exact ⟨(hb.cell hl).trans h.c0, (hb.cell (by exact hl)).trans h.c1, (hb.cell (by exact hl)).trans h.c2⟩
/-- All's answer -/
theorem row_docs {w : World} {B : Nat} {v : Value} {L : List Doc} (h : w.ownsRow B 53 3 v L.length (docCells L)) :
    ∃ (p : Option Addr) (cap : Nat), v = .slice p L.length cap ∧ L.length ≤ cap ∧ (∀ a, p = some a → B ≤ a.block ∧ a.block < w.heap.size) ∧ ∀ q d, L[q]? = some d → ∃ a, p = some a ∧ DocA w (a.add (q * 3)) d := by
  rcases h.2 with ⟨rfl, h2⟩ | ⟨g, cap, cur, rfl, h2, h3, h4, h5, h6, h7⟩
  · have : L = [] := List.length_eq_zero_iff.1 h2
    subst this
    exact ⟨none, 0, rfl, Nat.le_refl _, (fun a ha => by cases ha), fun q d hd => by simp at hd⟩
  · refine ⟨_, _, rfl, h4, (fun a ha => by obtain rfl := Option.some.inj ha; exact ⟨h2, (Array.getElem?_eq_some_iff.1 h3).1⟩), fun q d hd => ⟨_, rfl, ?_⟩⟩
    have hq := (List.getElem?_eq_some_iff.1 hd).1
    have e : (⟨g, 0, none⟩ : Addr).add (q * 3) = ⟨g, q * 3, none⟩ := by unfold Addr.add; split <;> simp_all
    have hc : ∀ f, f < 3 → w.cell? ⟨g, q * 3 + f, none⟩ = (docCell d)[f]? := fun f hf => by
      simp only [World.cell?, h3]
      rw [← Array.getElem?_toList, ← List.getElem?_take_of_lt (show q * 3 + f < L.length * 3 by omega), h7, docCells_at hd f hf]
      rfl
    rw [e]
    exact ⟨hc 0 (by omega), hc 1 (by omega), hc 2 (by omega)⟩
theorem dir_size {u : List UInt8} (h : (dirV u).isSome = true) : u.length ≤ 100 := by
  obtain ⟨d, hd⟩ := Option.isSome_iff_exists.1 h
  obtain ⟨b, rfl, h1, _, h3⟩ := dirV_isDir hd
  unfold nameB at h1 h3
  rw [Bool.and_eq_true, decide_eq_true_eq] at h1 h3
  have := h1.1.2.2
  have := h3.1.2.2
  simp [ahead, dotgo]
  omega
theorem size_arr (l : List UInt8) : (⟨l.toArray⟩ : ByteArray).size = l.length := by simp [ByteArray.size]
end Go.Proofs.Dc
/- A3: Acts among the arguments. -/
namespace Go.Proofs.Dc
open Go.RowKit Go.Maps Go.Proofs Go.Lib Go.ChangeShapes Go.WideShapes Go.Deep

section
variable {H : Type} {enc : TypeId × Value → H} {w : World} {base : Nat} {spare : Nat → Bool} {held : Bool}
set_option maxRecDepth 100000 in
theorem act_trod {fuel : Nat} {cs : List Value} {x : DataW H × List MemPlace} (h : DataW.trod enc Tryz.prog w base spare held fuel 35 cs = some x) :
    ∃ y : Act, cs[0]? = some (.int .i64 y.todo) ∧ cs[1]? = some (.string y.uri) ∧ cs[2]? = some (.string y.text) ∧ cs[3]? = some (.int .i64 y.times) ∧ cs[4]? = some (.int .i64 y.ver) ∧ cs[5]? = some (.slice y.lp y.ln y.lc) ∧ cs[6]? = some (.int .u8 y.fill) ∧
      ChgsAt w y.lp y.l ∧ y.ln = y.l.length ∧ y.ln ≤ maxLen ∧ y.uri.size ≤ maxLen ∧ y.text.size ≤ maxLen ∧ 0 ≤ y.fill ∧ y.fill ≤ 255 := by
  obtain ⟨xs, m, _, _, hlen, hl, hf⟩ := DataW.trod_struct Tryz.underlying35 h
  match xs, hl with
  | [y0, y1, y2, y3, y4, y5, y6], _ =>
    have h0 := hf 0 _ rfl
    have h1 := hf 1 _ rfl
    have h2 := hf 2 _ rfl
    have h3 := hf 3 _ rfl
    have h4 := hf 4 _ rfl
    have h5 := hf 5 _ rfl
    have h6 := hf 6 _ rfl
    simp [cn3] at h0
    simp [cn9] at h1
    simp [cn9] at h2
    simp [cn3] at h3
    simp [cn2] at h4
    simp [cn26] at h5
    simp [cn5] at h6
    obtain ⟨a0, e0, _⟩ := DataW.trod_int (k := .i64) Tryz.underlying3 h0
    obtain ⟨a1, e1, _, s1⟩ := DataW.trod_string Tryz.underlying9 h1
    obtain ⟨a2, e2, _, s2⟩ := DataW.trod_string Tryz.underlying9 h2
    obtain ⟨a3, e3, _⟩ := DataW.trod_int (k := .i64) Tryz.underlying3 h3
    obtain ⟨a4, e4, _⟩ := DataW.trod_int (k := .i64) Tryz.underlying2 h4
    obtain ⟨p, n, c, e5, hn, l, hl2, _, hI⟩ := changes_trod h5
    obtain ⟨a6, e6, _, z6⟩ := DataW.trod_int (k := .u8) Tryz.underlying5 h6
    have hb : 0 ≤ a6 ∧ a6 ≤ 255 := by simpa [Lit.wf, IntKind.min, IntKind.max, IntKind.signed, IntKind.bits] using z6
    exact ⟨⟨a0, a1, a2, a3, a4, p, n, c, l, a6⟩, one_cell (i := 0) (by simpa using e0), one_cell (i := 1) (by simpa using e1), one_cell (i := 2) (by simpa using e2), one_cell (i := 3) (by simpa using e3), one_cell (i := 4) (by simpa using e4), one_cell (i := 5) (by simpa using e5), one_cell (i := 6) (by simpa using e6), hI, hl2, hn, s1, s2, hb.1, hb.2⟩
theorem act_at {a : Addr} {i : Nat} {cs : List Value} (hc : w.cells? base (a.add (i * 7)) 7 = some cs) {fuel : Nat} {x : DataW H × List MemPlace} (h : DataW.trod enc Tryz.prog w base spare held fuel 35 cs = some x) : ∃ y, ActAt w (a.add (i * 7)) y := by
  obtain ⟨y, e0, e1, e2, e3, e4, e5, e6, r1, r2, r3, r4, r5, r6, r7⟩ := act_trod h
  obtain ⟨_, hcl, hat⟩ := World.cells?_some hc
  have hx : ∀ (j : Nat) (v : Value), 0 < j → j < 7 → cs[j]? = some v → w.cell? ⟨(a.add (i * 7)).block, (a.add (i * 7)).off + j, none⟩ = some v := fun j v hj0 hj hv => by
    rw [← add_at a (i * 7) j hj0, ← Go.Deep.add_add, hat j hj]
    exact hv
  have h0 : w.cell? (a.add (i * 7)) = some (.int .i64 y.todo) := by
    have := hat 0 (by omega)
    rw [show (a.add (i * 7)).add 0 = a.add (i * 7) by simp [Addr.add]] at this
    exact this.trans e0
  exact ⟨y, h0, hx 1 _ (by omega) (by omega) e1, hx 2 _ (by omega) (by omega) e2, hx 3 _ (by omega) (by omega) e3, hx 4 _ (by omega) (by omega) e4, hx 5 _ (by omega) (by omega) e5, hx 6 _ (by omega) (by omega) e6, r1, r2, r3, r4, r5, r6, r7, World.block_lt_of_cell? w _ h0⟩
set_option maxRecDepth 100000 in
theorem acts_arg {v : Value} {d : DataW H} {ps : List MemPlace} (hv : Value.okWide Tryz.prog w .any base 22 v) (h : DataW.Trod enc Tryz.prog w 0 (fun _ => true) true 22 v d ps) :
    ∃ (p : Option Addr) (n c : Nat), v = .slice p n c ∧ n ≤ maxLen ∧ ∃ l : List Act, n = l.length ∧ ActsAt w p l := by
  obtain ⟨a0, len, cap, rfl⟩ := okWide_slice Tryz.underlying22 hv
  obtain ⟨fuel, hf⟩ := h
  rcases open_slice Tryz.underlying22 hf with ⟨hcs, _⟩ | ⟨a, len', cap', m, n, D, Pl, hcs, _, hl, hm, hz, _, hcell⟩
  · simp [Value.cells] at hcs
    obtain ⟨rfl, rfl, rfl⟩ := hcs
    exact ⟨_, _, _, rfl, Nat.zero_le _, [], rfl, fun i x hx => by simp at hx⟩
  · simp [Value.cells] at hcs
    obtain ⟨rfl, rfl, rfl⟩ := hcs
    have hlm : len ≤ m := by rw [hz]; split <;> omega
    obtain ⟨l, hll, hp⟩ := list_of len (fun i y => ActAt w (a.add (i * 7)) y) fun i hi => by
      obtain ⟨cs', hc, ht⟩ := hcell i (by omega)
      rw [cn29] at hc
      exact act_at hc ht
    exact ⟨_, _, _, rfl, Nat.le_trans hl hm, l, hll.symm, fun i x hx => ⟨a, rfl, hp i x hx⟩⟩
end
end Go.Proofs.Dc
