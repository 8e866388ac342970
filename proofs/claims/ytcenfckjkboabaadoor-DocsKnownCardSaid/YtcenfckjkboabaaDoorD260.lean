/- DocsKnown: small laws on worlds; changes in memory. -/
import Derived.Test.YtcenfckjkboabaaDoorD23
import Derived.Test.YtcenfckjkboabaaDoorD25
import Derived.OrdersHeld
namespace Go.Proofs.Dc
open Go.RowKit Go.Proofs Go.Lib Go.Maps

theorem below_al {w W w' : World} {ob : Obj} (B : Below w.heap.size w W) (hb : Below (W.alloc ob).heap.size (W.alloc ob) w') : Below w.heap.size w w' := by
  have b1 := B.trans ((Below.refl W.heap.size W |>.alloc (Nat.le_refl _) ob).mono B.size)
  exact b1.trans (hb.mono b1.size)
theorem below_g {w W w' : World} {M : Nat} (B : Below w.heap.size w W) (hMM : w.heap.size ≤ M) (hg : W.grownBy w' (some M)) : Below w.heap.size w w' := B.trans (below_gb hMM B.size hg)
theorem below_ag {w W w' : World} {M : Nat} {ob : Obj} (B : Below w.heap.size w W) (hMM : w.heap.size ≤ M) (hg : (W.alloc ob).grownBy w' (some M)) : Below w.heap.size w w' := by
  have b1 := B.trans ((Below.refl W.heap.size W |>.alloc (Nat.le_refl _) ob).mono B.size)
  exact b1.trans (below_gb hMM b1.size hg)
theorem below_aag {w W w' : World} {M : Nat} {ob ob2 : Obj} (B : Below w.heap.size w W) (hMM : w.heap.size ≤ M) (hg : ((W.alloc ob).alloc ob2).grownBy w' (some M)) : Below w.heap.size w w' :=
  below_ag (B.trans ((Below.refl W.heap.size W |>.alloc (Nat.le_refl _) ob).mono B.size)) hMM hg
theorem chgs_one (w : World) (x : Chg) (hx : x.text.size ≤ maxLen) : ChgsAt (w.alloc (.cells #[.bool x.whole, .int .i64 x.a, .int .i64 x.b, .int .i64 x.c, .int .i64 x.d, .string x.text] 54)) (some ⟨w.heap.size, 0, none⟩) [x] := by
  have h := World.alloc_heap_new w (.cells #[.bool x.whole, .int .i64 x.a, .int .i64 x.b, .int .i64 x.c, .int .i64 x.d, .string x.text] 54)
  generalize w.alloc (.cells #[.bool x.whole, .int .i64 x.a, .int .i64 x.b, .int .i64 x.c, .int .i64 x.d, .string x.text] 54) = W at h ⊢
  generalize w.heap.size = k at h ⊢
  have hk := (Array.getElem?_eq_some_iff.1 h).1
  intro i z hz
  refine ⟨_, rfl, ?_⟩
  match i, hz with
  | 0, hz =>
    obtain rfl := Option.some.inj hz
    refine ⟨?_, ?_, ?_, ?_, ?_, ?_, hx, by simpa [Addr.add] using hk⟩ <;> simp [World.cell?, Addr.add, h]
  | i + 1, hz => cases hz
theorem wpAnyH_weaker {P : Program} {md : Region.Mode} {ops : Array Oper} {Q : Exit → Go.Act → World → Prop} {S S' : World → Prop} (h : ∀ w, S' w → S w) : ∀ (fuel : Nat) (listed : Array Bool) (a : Go.Act) (w : World), wpAnyH P md ops Q S' fuel listed a w → wpAnyH P md ops Q S fuel listed a w
  | 0, _, _, _, hh => hh
  | fuel + 1, _, _, _, hh => ⟨hh.1, fun i hi => wpOp_mono (fun a' w' h' => ⟨h w' h'.1, wpAnyH_weaker h fuel _ a' w' h'.2⟩) (hh.2 i hi)⟩
def bB : ByteArray := ⟨#[102, 105, 108, 101, 58, 47, 47, 47, 103, 101, 111, 47, 98]⟩
def bgB : ByteArray := ⟨#[102, 105, 108, 101, 58, 47, 47, 47, 103, 101, 111, 47, 98, 46, 103, 111]⟩
theorem chgs_nil (w : World) : ChgsAt w none [] := fun i x hx => by cases hx
end Go.Proofs.Dc
