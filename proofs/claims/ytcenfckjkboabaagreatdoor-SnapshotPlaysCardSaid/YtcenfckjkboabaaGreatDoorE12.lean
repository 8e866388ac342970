/- Steps of both documents: what a call leaves as it was. -/
import Derived.Test.YtcenfckjkboabaaGreatDoorE11
namespace Go.Proofs.Dc
open Go.RowKit Go.Proofs Go.Lib Go.Maps

/-- what a step leaves of the blocks that were there -/
structure Step (w w' : World) (M r : Nat) (v v' : Value) : Prop where
  os : w'.os = w.os
  tape : w'.tape = w.tape
  output : w'.output = w.output
  size : w.heap.size ≤ w'.heap.size
  block : ∀ k, k < w.heap.size → k ≠ M → k ≠ r → v.ownBlock ≠ some k → w'.heap[k]? = w.heap[k]?
  new : NewOr w v v'
theorem Step.refl (w : World) (M r : Nat) (v : Value) : Step w w M r v v := ⟨rfl, rfl, rfl, Nat.le_refl _, fun _ _ _ _ _ => rfl, .inl rfl⟩
theorem Step.trans {w w1 w2 : World} {M r : Nat} {v v1 v2 : Value} (h : Step w w1 M r v v1) (g : Step w1 w2 M r v1 v2) : Step w w2 M r v v2 := by
  refine ⟨g.os.trans h.os, g.tape.trans h.tape, g.output.trans h.output, Nat.le_trans h.size g.size, fun k h1 h2 h3 h4 => ?_, ?_⟩
  · refine (g.block k (Nat.lt_of_lt_of_le h1 h.size) h2 h3 ?_).trans (h.block k h1 h2 h3 h4)
    rcases h.new with rfl | hn
    · exact h4
    · intro e; have := hn k e; omega
  · rcases g.new with rfl | gn
    · exact h.new
    · exact .inr fun k e => Nat.le_trans h.size (gn k e)
theorem Step.below {w w' : World} {M r : Nat} {v : Value} (hb : Below w.heap.size w w') : Step w w' M r v v := ⟨hb.os, hb.tape, hb.output, hb.size, fun k h _ _ _ => hb.block k h, .inl rfl⟩
theorem Step.grownM {w w' : World} {M r : Nat} {v : Value} (hg : w.grownBy w' (some M)) : Step w w' M r v v := ⟨hg.os, hg.tape, hg.output, hg.size, fun k h h2 _ _ => hg.block k h (fun e => h2 (Option.some.inj e)), .inl rfl⟩
theorem Step.grownR {w w' : World} {M r : Nat} {v v' : Value} (hg : w.grownBy w' (some r)) (hn : NewOr w v v') : Step w w' M r v v' := ⟨hg.os, hg.tape, hg.output, hg.size, fun k h _ h3 _ => hg.block k h (fun e => h3 (Option.some.inj e)), hn⟩
theorem Step.grownV {w w' : World} {M r : Nat} {v : Value} (hg : w.grownBy w' v.ownBlock) : Step w w' M r v v := ⟨hg.os, hg.tape, hg.output, hg.size, fun k h _ _ h4 => hg.block k h (fun e => h4 e.symm), .inl rfl⟩
/-- seen from below -/
theorem Two.step {B : Nat} {w w' : World} {b M r : Nat} {v v' : Value} {L1 L2 : List Doc} (h : Two B w b M r v L1 L2) (s : Step w w' M r v v') : Below B w w' :=
  ⟨s.os, s.tape, s.output, s.size, fun k hk => s.block k (Nat.lt_of_lt_of_le hk h.sz) (by have := h.bM; omega) (by have := h.rv.lo; omega) (fun e => by have := (h.rv.row.lt k e).1; omega)⟩
/-- a block of its own stays -/
theorem Two.box {B : Nat} {w w' : World} {b M r : Nat} {v v' : Value} {L1 L2 : List Doc} {o : Obj} (h : Two B w b M r v L1 L2) (s : Step (w.alloc o) w' M r v v') : w'.heap[w.heap.size]? = some o := by
  refine (s.block w.heap.size (by simp) ?_ ?_ ?_).trans (World.alloc_heap_new w o)
  · have := h.dv.lt; omega
  · have := h.rv.lt; omega
  · intro e; have := (h.rv.row.lt _ e).2; omega
section
variable {B : Nat} {w : World} {b M r : Nat} {v : Value} {L1 L2 : List Doc} (hT : Tabs w) (hB : 6 ≤ B) (h : Two B w b M r v L1 L2)
include h
include hT hB
theorem two_open (u t : ByteArray) (ver : Int) (hu : u.size ≤ 1000000) (ht : t.size ≤ 1000000) (hL : L1.length ≤ 32) :
    Calls Tryz.prog 41 #[.pointer (some ⟨b, 0, none⟩), .string u, .string t, .int .i64 ver] w fun e w' => e = .returned (.int .i64 (openE L1 u.data.toList t.data.toList)) ∧ Two B w' b M r v (openL L1 u.data.toList t.data.toList ver) L2 ∧ Step w w' M r v v :=
  (open_any w hT b M L1 h.dv (by have := h.bM; omega) u t ver hu (by omega) (by omega)).mono fun _ _ ⟨h1, h2, h3⟩ => ⟨h1, (h.d h2 h3).1, Step.grownM h3⟩
theorem two_change (u : ByteArray) (ver : Int) (p : Option Addr) (n c : Nat) (cs : List Chg) (hu : u.size ≤ 1000000) (hn : n = cs.length) (hn2 : n ≤ 1000) (hI : ChgsAt w p cs) (hL : L1.length ≤ 32) (hS : ∀ d ∈ L1, d.text.length ≤ 65536) (hXs : ∀ x ∈ cs, x.text.size ≤ 70000) :
    Calls Tryz.prog 43 #[.pointer (some ⟨b, 0, none⟩), .string u, .int .i64 ver, .slice p n c] w fun e w' => e = .returned (.int .i64 (chgE L1 u.data.toList ver cs)) ∧ Two B w' b M r v (chgL L1 u.data.toList ver cs) L2 ∧ Step w w' M r v v :=
  (change_any w hT b M L1 h.dv (by have := h.bM; omega) u ver p n c cs hu hn (by unfold maxLen; omega) hI (by omega) hS (fun x hx => by have := hXs x hx; omega)).mono fun _ _ ⟨h1, h2, h3⟩ => ⟨h1, (h.d h2 h3).1, Step.grownM h3⟩
omit hT hB
theorem two_close (u : ByteArray) (hu : u.size ≤ 1000000) :
    Calls Tryz.prog 55 #[.pointer (some ⟨b, 0, none⟩), .string u] w fun e w' => e = .returned (.int .i64 (closeE L1 u.data.toList)) ∧ Two B w' b M r v (without u.data.toList L1) L2 ∧ Step w w' M r v v :=
  (close_any w b M L1 h.dv u (by unfold maxLen; omega)).mono fun _ _ ⟨h1, h2, h3⟩ => ⟨h1, (h.d h2 h3).1, Step.grownM h3⟩
theorem two_ropen (hO : Ord L2) (u t : ByteArray) (ver : Int) (hL : L2.length ≤ 32) (hu : u.size ≤ 1000000) (ht : t.size ≤ 1000000) :
    Calls Tryz.prog 53 #[.pointer (some ⟨r, 0, none⟩), .string u, .string t, .int .i64 ver] w fun e w' => e = .returned (.int .i64 (openE L2 u.data.toList t.data.toList)) ∧ ∃ v', Two B w' b M r v' L1 (openL L2 u.data.toList t.data.toList ver) ∧ Step w w' M r v v' :=
  (refOpen_any w r B v L2 h.rv hO u t ver hL hu ht).mono fun _ _ ⟨h1, v', h2, h3, h4⟩ => ⟨h1, v', (h.r h2 h3 h4).1, Step.grownR h3 h4⟩
theorem two_rclose (hO : Ord L2) (u : ByteArray) (hL : L2.length ≤ 32) :
    Calls Tryz.prog 56 #[.pointer (some ⟨r, 0, none⟩), .string u] w fun e w' => e = .returned (.int .i64 (closeE L2 u.data.toList)) ∧ ∃ v', Two B w' b M r v' L1 (without u.data.toList L2) ∧ Step w w' M r v v' :=
  (refClose_any w r B v L2 h.rv hO u (by omega)).mono fun _ _ ⟨h1, v', h2, h3, h4⟩ => ⟨h1, v', (h.r h2 h3 h4).1, Step.grownR h3 h4⟩
theorem two_rchange (hO : Ord L2) (u : ByteArray) (ver : Int) (p : Option Addr) (n c : Nat) (cs : List Chg) (hn : n = cs.length) (hn2 : n ≤ 1000) (hI : ChgsAt w p cs) (hL : L2.length ≤ 32) (hS : ∀ d ∈ L2, d.text.length ≤ 65536) (hXs : ∀ x ∈ cs, x.text.size ≤ 70000) :
    Calls Tryz.prog 57 #[.pointer (some ⟨r, 0, none⟩), .string u, .int .i64 ver, .slice p n c] w fun e w' => e = .returned (.int .i64 (chgE L2 u.data.toList ver cs)) ∧ Two B w' b M r v L1 (chgL L2 u.data.toList ver cs) ∧ Step w w' M r v v :=
  (refChange_any w r B v L2 h.rv hO u ver p n c cs hn hn2 hI (by omega) hS hXs).mono fun _ _ ⟨h1, h2, h3⟩ => ⟨h1, (h.c h2 h3).1, Step.grownV h3⟩
end
end Go.Proofs.Dc
