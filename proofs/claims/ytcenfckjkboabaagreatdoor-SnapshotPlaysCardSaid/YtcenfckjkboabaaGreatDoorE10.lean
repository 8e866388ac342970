/- Both documents in memory, beside each other; what an act makes of documents. -/
import Derived.Test.YtcenfckjkboabaaGreatDoorGE
import Derived.Test.YtcenfckjkboabaaGreatDoorGD
namespace Go.Proofs.Dc
open Go.RowKit Go.Proofs Go.Lib Go.Maps

/-- the program's documents and the reference's, apart from each other -/
structure Two (B : Nat) (w : World) (b M r : Nat) (v : Value) (L1 L2 : List Doc) : Prop where
  dv : DV w b M L1
  rv : RV w r B v L2
  bM : B ≤ M
  bb : B ≤ b
  rb : r ≠ b
  rM : r ≠ M
  vb : v.ownBlock ≠ some b
  vM : v.ownBlock ≠ some M
  sz : B ≤ w.heap.size
theorem Two.below {B : Nat} {w w' : World} {b M r : Nat} {v : Value} {L1 L2 : List Doc} (h : Two B w b M r v L1 L2) (hb : Below w.heap.size w w') : Two B w' b M r v L1 L2 :=
  ⟨h.dv.below hb, h.rv.below hb, h.bM, h.bb, h.rb, h.rM, h.vb, h.vM, Nat.le_trans h.sz hb.size⟩
theorem Two.d {B : Nat} {w w' : World} {b M r : Nat} {v : Value} {L1 L1' L2 : List Doc} (h : Two B w b M r v L1 L2) (hd : DV w' b M L1') (hg : w.grownBy w' (some M)) : Two B w' b M r v L1' L2 ∧ Below B w w' :=
  ⟨⟨hd, h.rv.kept hg (fun e => h.rM (Option.some.inj e)) (.inl h.vM), h.bM, h.bb, h.rb, h.rM, h.vb, h.vM, Nat.le_trans h.sz hg.size⟩, below_gb h.bM h.sz hg⟩
theorem Two.r {B : Nat} {w w' : World} {b M r : Nat} {v v' : Value} {L1 L2 L2' : List Doc} (h : Two B w b M r v L1 L2) (hr : RV w' r B v' L2') (hg : w.grownBy w' (some r)) (hn : NewOr w v v') : Two B w' b M r v' L1 L2' ∧ Below B w w' := by
  have h1 := h.dv.lt
  refine ⟨⟨h.dv.kept hg (fun e => h.rb (Option.some.inj e).symm) (fun e => h.rM (Option.some.inj e).symm), hr, h.bM, h.bb, h.rb, h.rM, ?_, ?_, Nat.le_trans h.sz hg.size⟩, below_gb h.rv.lo h.sz hg⟩
  · rcases hn with rfl | hn
    · exact h.vb
    · intro e; have := hn _ e; omega
  · rcases hn with rfl | hn
    · exact h.vM
    · intro e; have := hn _ e; omega
theorem Two.c {B : Nat} {w w' : World} {b M r : Nat} {v : Value} {L1 L2 L2' : List Doc} (h : Two B w b M r v L1 L2) (hr : RV w' r B v L2') (hg : w.grownBy w' v.ownBlock) : Two B w' b M r v L1 L2' ∧ Below B w w' :=
  ⟨⟨h.dv.kept hg (fun e => h.vb e.symm) (fun e => h.vM e.symm), hr, h.bM, h.bb, h.rb, h.rM, h.vb, h.vM, Nat.le_trans h.sz hg.size⟩, (Below.refl B w).grown hg h.sz (fun k hk => (h.rv.row.lt k hk).1)⟩
/-- what an act makes of documents -/
def actL (L : List Doc) (x : Act) : List Doc :=
  let L1 := fillsL (min x.fill.toNat 40) L
  if bits BinOp.and IntKind.i64 x.todo 3 = 0 then openL L1 x.uri.data.toList (repT x.text.data.toList x.times) x.ver
  else if bits BinOp.and IntKind.i64 x.todo 3 = 3 then without x.uri.data.toList L1
  else chgL L1 x.uri.data.toList x.ver x.l
theorem Inv.act {L : List Doc} (h : Inv L) (x : Act) : Inv (actL L x) := by
  unfold actL
  simp only
  split
  · exact (h.fills _).opened _ _ _
  · split
    · exact (h.fills _).closed _
    · exact (h.fills _).changed _ _ _
end Go.Proofs.Dc
