/- Merged texts: V10, V11. -/
import Derived.Test.YtaiaiiepbpbmmaaGreatDoorV9
import Derived.Deep.RegionHeld3
import Derived.StillTailTactics
/- V10: Values of JSON in memory: Check; put. -/
namespace Go.Proofs.Jt
open Go.RowKit Go.Maps Go.Lib Go.Proofs.Utf Go.Proofs

set_option maxRecDepth 100000 in
set_option maxHeartbeats 1000000 in
theorem check_any {w : World} {x : JV} {kp ip : Option Addr} {kc ic : Nat} (hT : Tabs w) (h : KI w x kp kc ip ic) (hwt : x.wt ≤ 1000000) : ∀ w', Below w.heap.size w w' → Calls Tryz.prog 89 #[jval x kp kc ip ic] w' fun e w'' => e = .returned (.int .i64 (x.chk : Nat)) ∧ Below w'.heap.size w' w'' := by
  intro w' hb
  obtain ⟨W, hW⟩ : ∃ W, w'.alloc (.cells #[.int .i64 x.kind, .string ⟨x.str.toArray⟩, .slice kp x.keys.length kc, .slice ip x.items.length ic] 25) = W := ⟨_, rfl⟩
  have bW : Below w'.heap.size w' W := by rw [← hW]; exact (Below.refl _ _).alloc (Nat.le_refl _) _
  have hbx := box_cells hW
  obtain ⟨c0, c1, c2, c3⟩ := hbx W (Below.refl _ _)
  have hB : ∀ W', Below W.heap.size W W' → Below w.heap.size w W' := fun W' hb' => hb.trans ((bW.trans (hb'.mono bW.size)).mono hb.size)
  have hdp := depth_any h hwt W (hB W (Below.refl _ _))
  have hfd := fun W' hb' => found_any hT h hwt W' (hB W' hb')
  have hdw := dep_wt x
  obtain ⟨D, hD⟩ : ∃ D, x.dep = D := ⟨_, rfl⟩
  obtain ⟨F, hF⟩ : ∃ F, x.fnd = F := ⟨_, rfl⟩
  have hck : x.chk = if 64 < D then 3 else F := by unfold JV.chk; rw [hD, hF]
  rw [hck]
  simp only [hD] at hdp hdw
  simp only [hF] at hfd
  unfold jval at hdp hfd ⊢
  obtain ⟨S, hS⟩ : ∃ S : ByteArray, (⟨x.str.toArray⟩ : ByteArray) = S := ⟨_, rfl⟩
  simp only [hS] at hW hbx hdp hfd c1 ⊢
  have HBX := Lib.hid hbx
  have HFD := Lib.hid hfd
  have HBW := Lib.hid bW
  clear hbx hfd bW hB h hT hD hF hck hS hb
  by_cases h64 : 64 < D
  · rw [if_pos h64]
    have t : (64 : Int) < (D : Int) := by omega
    go_enter Tryz.func89, Tryz.ntmps89
    go_wp2_with (first | (go_at_call 146; refine hdp.mono ?_; rintro e w1 ⟨rfl, hb1⟩))
    go_ret
    exact ⟨rfl, HBW.out.trans (hb1.mono HBW.out.size)⟩
  · rw [if_neg h64]
    have t : ¬ (64 : Int) < (D : Int) := by omega
    go_enter Tryz.func89, Tryz.ntmps89
    go_wp2_with (first
      | (go_at_call 146; refine hdp.mono ?_; rintro e w1 ⟨rfl, hb1⟩; obtain ⟨d0, d1, d2, d3⟩ := HBX.out w1 hb1)
      | (go_at_call 147; refine (HFD.out w1 hb1).mono ?_; rintro e w2 ⟨rfl, hb2⟩; have hb3 := hb1.trans (hb2.mono hb1.size)))
    go_ret
    exact ⟨rfl, HBW.out.trans (hb3.mono HBW.out.size)⟩
end Go.Proofs.Jt
/- V11: Values of JSON in memory: the text is laid (put$1, put). -/
namespace Go.Proofs.Jt
open Go.RowKit Go.Maps Go.Lib Go.Proofs.Utf Go.Proofs

/-- a builder that holds these bytes -/
def BW (w : World) (B b : Nat) (l : List UInt8) : Prop := Lib.IsBuilderF 201 5 B b (Lib.byteCells l) w
theorem BW.below {w w' : World} {B b : Nat} {l : List UInt8} (h : BW w B b l) (hb : Below w.heap.size w w') : BW w' B b l := by
  have key : ∀ p, Lib.BuilderAtF 201 5 B b p (Lib.byteCells l) w → Lib.BuilderAtF 201 5 B b p (Lib.byteCells l) w' := fun p hh => by
    have hlt := hh.lt
    obtain ⟨h1, v, h2, h3, h4⟩ := hh
    exact ⟨h1, v, (hb.block b hlt).trans h2, h3.kept (gb_below' hb) (by cases hv : v.ownBlock <;> simp), h4⟩
  rcases h with h | h
  · exact .inl (key _ h)
  · exact .inr (key _ h)
theorem BW.lt {w : World} {B b : Nat} {l : List UInt8} (h : BW w B b l) : B ≤ b ∧ b < w.heap.size := by
  rcases h with h | h
  · exact ⟨h.1, h.lt⟩
  · exact ⟨h.1, h.lt⟩
abbrev OK5 (b : Nat) (w w' : World) : Prop := Lib.OthersKept 5 (some b) w w'
theorem ok5_below {b : Nat} {w w' : World} (hb : Below w.heap.size w w') : OK5 b w w' := fun k _ h _ _ => (hb.block k (Array.getElem?_eq_some_iff.1 h).1).trans h
theorem bw_str {w : World} {B b : Nat} (l : List UInt8) (s : ByteArray) (h : BW w B b l) (hl : l.length + s.size ≤ 140737488355328) :
    Calls Tryz.prog 170 #[.pointer (some ⟨b, 0, none⟩), .string s] w fun e w' => e = .returned (.tuple #[.int .i64 s.size, .nilIface]) ∧ BW w' B b (l ++ s.data.toList) ∧ Below B w w' ∧ OK5 b w w' :=
  (Tryz.Builder_WriteString_k B b _ s w h (by rw [Lib.byteCells_length]; exact hl) (by have := h.lt; omega)).mono fun e w' ⟨h1, h2, h3, h4⟩ => ⟨h1, .inr (by rw [Lib.byteCells_append]; exact h2), h3, h4⟩
theorem bw_byte {w : World} {B b : Nat} (l : List UInt8) (c : UInt8) (h : BW w B b l) (hl : l.length + 1 ≤ 140737488355328) :
    Calls Tryz.prog 182 #[.pointer (some ⟨b, 0, none⟩), .int .u8 (c.toNat : Int)] w fun e w' => e = .returned .nilIface ∧ BW w' B b (l ++ [c]) ∧ Below B w w' ∧ OK5 b w w' :=
  (Tryz.Builder_WriteByte_k B b _ (c.toNat : Int) w h (by rw [Lib.byteCells_length]; exact hl) (by have := h.lt; omega)).mono fun e w' ⟨h1, h2, h3, h4⟩ => ⟨h1, .inr (by rw [Lib.byteCells_append]; exact h2), h3, h4⟩
set_option maxRecDepth 100000 in
set_option maxHeartbeats 1000000 in
theorem put1_any (s : ByteArray) (w : World) (hT : Tabs w) (hs : s.size ≤ 1000000) (hv : validD s.data.toList = true) (B b q : Nat) (l : List UInt8) (hW : BW w B b l) (hl : l.length ≤ 20000000) (hq : w.cell? ⟨q, 0, none⟩ = some (.pointer (some ⟨b, 0, none⟩))) (hqz : q < w.heap.size) :
    Calls Tryz.prog 185 #[.string s, .pointer (some ⟨q, 0, none⟩)] w fun e w' => e = .returned (.tuple #[]) ∧ BW w' B b (l ++ quoteL s.data.toList) ∧ Below B w w' ∧ OK5 b w w' := by
  have hqt := quote_walk s w hT (by omega) hv
  have hlen := quote_len s.data.toList
  rw [← Lib.size_eq] at hlen
  have hBb := hW.lt
  obtain ⟨Q, hQ⟩ : ∃ Q : ByteArray, (⟨(quoteL s.data.toList).toArray⟩ : ByteArray) = Q := ⟨_, rfl⟩
  have hQl : Q.data.toList = quoteL s.data.toList := by rw [← hQ]
  have hQs : Q.size = (quoteL s.data.toList).length := by rw [← hQ, arr_size]
  rw [hQ] at hqt
  rw [← hQl]
  have hw := fun w1 (hb : Below w.heap.size w w1) => bw_str (w := w1) l Q (hW.below hb) (by omega)
  have HW := Lib.hid hw
  clear hw hW hQ hQl hT hv
  go_enter Tryz.func185, Tryz.ntmps185
  go_wp2_with (first
    | (go_at_call 128; refine hqt.mono ?_; rintro e w1 ⟨rfl, hb1⟩; have hq1 := (hb1.cell (p := ⟨q, 0, none⟩) hqz).trans hq)
    | (go_at_call 170; refine (HW.out w1 hb1).mono ?_; rintro e w2 ⟨rfl, h2, h3, h4⟩))
  go_end0
  exact ⟨rfl, h2, (hb1.mono (by omega)).trans h3, (ok5_below hb1).trans h4⟩
end Go.Proofs.Jt
