/- Generations: what a Snapshots holds, in memory. -/
import Derived.Test.YtcenfckjkboabaaGreatDoorE15
import Derived.Maps.OwnSet
namespace Go.Proofs
open Go.Shelf
def Tryz.cloneI_ren : Go.Shelf.Ren := ⟨fun | 5 => 100 | 7 => 96 | n => n, fun | 23 => 101 | 25 => 9 | 3 => 3 | 4 => 4 | 20 => 20 | n => n, fun | n => n⟩
theorem Tryz.cloneI : Go.Proofs.SlLaysW.n5 Tryz.prog Tryz.cloneI_ren := {
  mixed := by kernel_rfl
  f5 := ⟨Tryz.f100.name, by decide, Tryz.func100.trans (congrArg some (by kernel_rfl))⟩
  f7 := Tryz.func96.trans (congrArg some (by kernel_rfl))
  t4 := Tryz.underlying4
  a4 := Tryz.isAgg4
  z4 := Tryz.sizeOf4
  v4 := Tryz.zeroValue4
  t20 := Tryz.underlying20
  a20 := Tryz.isAgg20
  z20 := Tryz.sizeOf20
  v20 := Tryz.zeroValue20
  t23 := Tryz.underlying101
  a23 := Tryz.isAgg101
  z23 := Tryz.sizeOf101
  v23 := Tryz.zeroValue101 }
end Go.Proofs
namespace Go.Proofs.Dc
open Go.RowKit Go.Proofs Go.Lib Go.Maps

/-- a generation: its documents, how often it is held, of which URI it was made -/
structure Gen where
  docs : List Doc
  held : Nat
  uri : List UInt8
/-- which are kept -/
def kept (G : List Gen) (n : Nat) : Bool := match G[n]? with | some g => decide (n + 1 = G.length ∨ 0 < g.held) | none => false
def cnt (K : Nat → Bool) (N : Nat) : Nat := (List.range N).countP K
/-- the last place of a URI in a list that is told from its end -/
def cameR : List (List UInt8) → List UInt8 → Nat
  | [], _ => 0
  | u :: r, x => if u = x then r.length else cameR r x
def cameOf (G : List Gen) (n : Nat) (u : List UInt8) : Nat := cameR (((G.take (n + 1)).map (·.uri)).reverse) u
/-- pointers and numbers as elements of maps -/
def ptrEl (v : Value) : Option (DataW Unit × List MemPlace) := match v with
  | .pointer (some ⟨b, 0, none⟩) => some (.lit (.int .i64 (b : Int)), [])
  | .pointer none => some (.nil, [])
  | _ => none
def intEl (v : Value) : Option (DataW Unit × List MemPlace) := match v with
  | .int .i64 a => some (.lit (.int .i64 a), [])
  | _ => none
theorem ptrEl_int {v : Value} {b : Nat} {ps : List MemPlace} (h : ptrEl v = some (.lit (.int .i64 (b : Int)), ps)) : v = .pointer (some ⟨b, 0, none⟩) := by
  unfold ptrEl at h
  split at h
  · simp only [Option.some.injEq, Prod.mk.injEq, DataW.lit.injEq, Lit.int.injEq, true_and] at h
    have := h.1
    have e : (‹Nat› : Nat) = b := by omega
    rw [e]
  · simp at h
  · simp at h
theorem ptrEl_nil {v : Value} {ps : List MemPlace} (h : ptrEl v = some (.nil, ps)) : v = .pointer none := by
  unfold ptrEl at h
  split at h
  · simp at h
  · rfl
  · simp at h
theorem intEl_int {v : Value} {a : Int} {ps : List MemPlace} (h : intEl v = some (.lit (.int .i64 a), ps)) : v = .int .i64 a := by
  unfold intEl at h
  split at h
  · simp only [Option.some.injEq, Prod.mk.injEq, DataW.lit.injEq, Lit.int.injEq, true_and] at h
    rw [h.1]
  · simp at h
theorem law3 : Keyed Tryz.prog 3 := int_keyed Tryz.underlying3
def wfI (a : Int) : Prop := (Lit.int .i64 a).wf = true
theorem wfI_of {a : Int} (h1 : -9223372036854775808 ≤ a) (h2 : a ≤ 9223372036854775807) : wfI a := by
  unfold wfI
  simp [Lit.wf, IntKind.min, IntKind.max, IntKind.signed, IntKind.bits]
  omega
theorem ownM_tight {k : TypeId} {R : Value → Option (DataW Unit × List MemPlace)} {w : World} {M n : Nat} {D : DataW Unit} (h : w.ownsMap Tryz.prog k R M n D) : w.ownsMap Tryz.prog k R M (Maps.size D) D := by
  obtain ⟨es, clock, h1, h2, _, h4⟩ := h
  refine ⟨es, clock, h1, h2, ?_, h4⟩
  rw [h4]
  simp [Maps.size, length_sorted]
/-- where each document came -/
def CameAt (w : World) (C : Nat) (L : List Doc) (f : List UInt8 → Nat) : Prop :=
  ∃ D, w.ownsMap Tryz.prog 9 intEl C (Maps.size D) D ∧ Maps.size D = L.length ∧ (∀ u, Maps.has D (.string u) = (getD? L u).isSome) ∧ ∀ u, (getD? L u).isSome = true → ∀ z, D.atKey (.string u) z = .lit (.int .i64 (f u : Int))
theorem CameAt.kept {w w' : World} {C : Nat} {L : List Doc} {f : List UInt8 → Nat} (h : CameAt w C L f) {row : Option Nat} (hg : w.grownBy w' row) (hne : some C ≠ row) : CameAt w' C L f := by
  obtain ⟨D, h1, h2⟩ := h
  exact ⟨D, h1.kept hg hne, h2⟩
theorem CameAt.lt {w : World} {C : Nat} {L : List Doc} {f : List UInt8 → Nat} (h : CameAt w C L f) : C < w.heap.size := by
  obtain ⟨D, h1, _⟩ := h
  exact h1.lt
/-- a generation in memory; m: the map that holds them all -/
structure GenAt (w : World) (G : List Gen) (n b m : Nat) where
  g : Gen
  d : Nat
  M : Nat
  C : Nat
  at_ : G[n]? = some g
  hd : w.heap[b]? = some (.cells #[.pointer (some ⟨d, 0, none⟩), .map (some C), .int .i64 (g.held : Int)] 103 (0, 0))
  dv : DV w d M g.docs
  cm : CameAt w C g.docs (cameOf G n)
  Mm : M ≠ m
  Cm : C ≠ m
def GenAt.kept {w w' : World} {G : List Gen} {n b m : Nat} (h : GenAt w G n b m) {row : Option Nat} (hg : w.grownBy w' row) (h1 : some b ≠ row) (h2 : some h.d ≠ row) (h3 : some h.M ≠ row) (h4 : some h.C ≠ row) : GenAt w' G n b m :=
  ⟨h.g, h.d, h.M, h.C, h.at_, (hg.block b (Array.getElem?_eq_some_iff.1 h.hd).1 h1).trans h.hd, h.dv.kept hg h2 h3, h.cm.kept hg h4, h.Mm, h.Cm⟩
/-- a map is no row of cells -/
theorem own_notCells {k : TypeId} {R : Value → Option (DataW Unit × List MemPlace)} {w : World} {b n : Nat} {D : DataW Unit} (h : w.ownsMap Tryz.prog k R b n D) {c : Array Value} {t : TypeId} {fz : Nat × Nat} : w.heap[b]? ≠ some (.cells c t fz) := by
  obtain ⟨es, clock, h1, _⟩ := h
  rw [h1]
  intro e
  cases e
/-- all generations that a map holds -/
structure SK (w : World) (s m lo : Nat) (K : Nat → Bool) (now : Nat) (G : List Gen) (N : Nat) (B : Nat → Nat) (D : DataW Unit) : Prop where
  hd : w.heap[s]? = some (.cells #[.map (some m), .int .i64 (now : Int)] 72 (0, 0))
  slo : lo ≤ s
  mlo : lo ≤ m
  mp : w.ownsMap Tryz.prog 3 ptrEl m N D
  siz : Maps.size D = N
  has : ∀ i : Int, Maps.has D (.int .i64 i) = (decide (0 ≤ i) && K i.toNat)
  inj : ∀ i j, K i = true → K j = true → B i = B j → i = j
  el : ∀ n, K n = true → (∀ z, D.atKey (.int .i64 (n : Int)) z = .lit (.int .i64 (B n : Int))) ∧ lo ≤ B n ∧ Nonempty (GenAt w G n (B n) m)
theorem SK.below {w w' : World} {s m lo : Nat} {K : Nat → Bool} {now : Nat} {G : List Gen} {N : Nat} {B : Nat → Nat} {D : DataW Unit} (h : SK w s m lo K now G N B D) (hb : Below w.heap.size w w') : SK w' s m lo K now G N B D := by
  have hg : w.grownBy w' none := gb_below hb
  refine ⟨(hb.block s (Array.getElem?_eq_some_iff.1 h.hd).1).trans h.hd, h.slo, h.mlo, h.mp.kept hg (by simp), h.siz, h.has, h.inj, fun n hn => ?_⟩
  obtain ⟨h1, h2, ⟨g⟩⟩ := h.el n hn
  exact ⟨h1, h2, ⟨g.kept hg (by simp) (by simp) (by simp) (by simp)⟩⟩
theorem SK.lt {w : World} {s m lo : Nat} {K : Nat → Bool} {now : Nat} {G : List Gen} {N : Nat} {B : Nat → Nat} {D : DataW Unit} (h : SK w s m lo K now G N B D) : s < w.heap.size ∧ m < w.heap.size := ⟨(Array.getElem?_eq_some_iff.1 h.hd).1, h.mp.lt⟩
theorem SK.cells {w : World} {s m lo : Nat} {K : Nat → Bool} {now : Nat} {G : List Gen} {N : Nat} {B : Nat → Nat} {D : DataW Unit} (h : SK w s m lo K now G N B D) : w.cell? ⟨s, 0, none⟩ = some (.map (some m)) ∧ w.cell? ⟨s, 1, none⟩ = some (.int .i64 (now : Int)) := by
  have := h.hd
  constructor <;> simp [World.cell?, this]
theorem SK.sm {w : World} {s m lo : Nat} {K : Nat → Bool} {now : Nat} {G : List Gen} {N : Nat} {B : Nat → Nat} {D : DataW Unit} (h : SK w s m lo K now G N B D) : s ≠ m := by
  rintro rfl
  exact own_notCells h.mp h.hd
/-- what m[i] is: a pointer, or none -/
theorem SK.look {w : World} {s m lo : Nat} {K : Nat → Bool} {now : Nat} {G : List Gen} {N : Nat} {B : Nat → Nat} {D : DataW Unit} (h : SK w s m lo K now G N B D) (i : Int) (hi : wfI i) :
    (Instr.lookup 70 (.map (some m)) (.int .i64 i) false).run Tryz.prog w = .ok (.pointer (if 0 ≤ i ∧ K i.toNat = true then some ⟨B i.toNat, 0, none⟩ else none)) w := by
  obtain ⟨v, ps, hrun, hv⟩ := h.mp.lookup law3 Tryz.underlying70 (z := .pointer none) (by kernel_rfl) (zd := .nil) (zp := []) rfl (keyOf_int_mk Tryz.underlying3 hi)
  rw [hrun]
  have hh := h.has i
  by_cases hc : 0 ≤ i ∧ K i.toNat = true
  · rw [if_pos hc]
    obtain ⟨h1, _⟩ := h.el i.toNat hc.2
    rw [show ((i.toNat : Nat) : Int) = i by omega] at h1
    rw [h1] at hv
    rw [ptrEl_int hv]
  · rw [if_neg hc]
    have h0 : Maps.has D (.int .i64 i) = false := by
      rw [hh]
      by_cases h1 : 0 ≤ i
      · have : K i.toNat = false := by
          cases hk : K i.toNat
          · rfl
          · exact absurd ⟨h1, hk⟩ hc
        rw [this, Bool.and_false]
      · rw [decide_eq_false h1, Bool.false_and]
    rw [atKey_of_not_has h0] at hv
    rw [ptrEl_nil hv]
theorem SK.len {w : World} {s m lo : Nat} {K : Nat → Bool} {now : Nat} {G : List Gen} {N : Nat} {B : Nat → Nat} {D : DataW Unit} (h : SK w s m lo K now G N B D) (ty : TypeId) : (Builtin.len_ #[70] ty #[.map (some m)]).run Tryz.prog w = .ok (.int .i64 (N : Int)) w := by
  have := h.mp.len Tryz.underlying70 ty
  rw [h.siz] at this
  exact this
/-- what a Snapshots is between its calls -/
def SV (w : World) (s m lo : Nat) (G : List Gen) : Prop := G ≠ [] ∧ ∃ B D, SK w s m lo (kept G) (G.length - 1) G (cnt (kept G) G.length) B D
theorem SV.below {w w' : World} {s m lo : Nat} {G : List Gen} (h : SV w s m lo G) (hb : Below w.heap.size w w') : SV w' s m lo G := by
  obtain ⟨h1, B, D, h2⟩ := h
  exact ⟨h1, B, D, h2.below hb⟩
theorem run_neq_map70 (p : Option Nat) (w : World) : (binOp .neq 70 (.map p) (.map none)).run Tryz.prog w = .ok (.bool (!p.isNone)) w := by
  simp only [binOp]
  simp [show Op.equal 70 (.map p) (.map none) = Op.equalIn (9999 + 1) 70 (.map p) (.map none) from rfl, run_equalIn_map_nil_sl w 9999 70 3 100 p Tryz.underlying70]
set_option maxRecDepth 100000 in
theorem sis_any {w : World} {s m lo : Nat} {K : Nat → Bool} {now : Nat} {G : List Gen} {N : Nat} {B : Nat → Nat} {D : DataW Unit} (h : SK w s m lo K now G N B D) : Calls Tryz.prog 66 #[.pointer (some ⟨s, 0, none⟩)] w fun e w' => e = .returned (.bool true) ∧ w = w' := by
  obtain ⟨c0, c1⟩ := h.cells
  have hr := run_neq_map70 (some m)
  clear h
  go_enter Tryz.func66, Tryz.ntmps66
  go_wp2
  go_ret
  exact ⟨rfl, rfl⟩
end Go.Proofs.Dc
