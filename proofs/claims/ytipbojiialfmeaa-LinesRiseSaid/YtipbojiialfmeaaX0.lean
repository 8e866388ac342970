/- A region that draws its order, in a round of a loop over an iterator: the plain law of held loads serves there too. -/
import Derived.Test.YtipbojiialfmeaaX5
import Derived.Deep.RegionHeld3
namespace Go.Proofs.Ytipbojiialfmeaa
open Go.RowKit

theorem opIn_of {l n : Nat} {P : Program} {o : Oper} {a : Act} {w : World} {K : Act → World → Prop} {Q : Exit → Act → World → Prop} (hd : ∀ c, o.op ≠ .defer c) (h : o.wp P a w K Q) : o.wpIn (Fence.wide.inRound l) n P a w K Q := by
  refine ⟨fun _ _ => trivial, ?_⟩
  rw [Oper.semAt_eq _ _ _ hd]
  unfold Oper.wp at h
  generalize (execOp a.eval o).run P w = r at *
  cases r with
  | ok x w' =>
    cases x <;> simp only [Oper.upon, Oper.uponIn] at h ⊢
    case enter => exact ⟨fun h => by simp [Fence.inRound, Fence.wide] at h, CallsIn.inRound l (callsIn_wide.2 h)⟩
    case row => exact ⟨fun h => by simp [Fence.inRound, Fence.wide] at h, fun c cs _ => let ⟨v, w', r, s⟩ := h c cs; ⟨v, w', r, stepsIn_wide.2 s⟩⟩
    all_goals first | exact h | exact h.elim
  | halt x w' => cases x <;> first | exact h | exact h.elim
def NoDefer (ops : Array Oper) : Prop := ∀ (j : Nat) (o : Oper), ops[j]? = some o → ∀ c, o.op ≠ .defer c
def noDefer? (ops : Array Oper) : Bool := ops.all fun o => match o.op with | .defer _ => false | _ => true
theorem noDefer_of {ops : Array Oper} (h : noDefer? ops = true) : NoDefer ops := fun j o hj c hc => by
  unfold noDefer? at h
  rw [Array.all_eq_true] at h
  obtain ⟨hlt, he⟩ := Array.getElem?_eq_some_iff.1 hj
  have := h j hlt
  rw [he, hc] at this
  simp at this
theorem anyIn_of {l n : Nat} {P : Program} {md : Region.Mode} {ops : Array Oper} {Q : Exit → Act → World → Prop} (hd : NoDefer ops) (hQ : ¬ LetsOut Q) :
    ∀ (fuel : Nat) (listed : Array Bool) (a : Act) (w : World), wpAny P md ops Q fuel listed a w → wpAnyIn (Fence.wide.inRound l) n P md ops Q fuel listed a w
  | 0, _, _, _, h => h
  | fuel + 1, listed, a, w, h => ⟨h.1, fun i hi => by
      have h2 := h.2 i hi
      unfold wpOp at h2
      unfold wpOpIn
      cases ho : ops[i]? with
      | none => rw [ho] at h2; exact anyIn_of hd hQ fuel _ _ _ h2
      | some o =>
        rw [ho] at h2
        simp only at h2 ⊢
        split
        · next hw =>
          rw [if_pos hw] at h2
          rcases h2 with h2 | ⟨_, h2⟩
          · exact Oper.wpIn_mono (fun a w => anyIn_of hd hQ fuel _ a w) (opIn_of (hd i o ho) h2)
          · exact (hQ h2).elim
        · next hw =>
          rw [if_neg hw] at h2
          exact ⟨fun _ _ => trivial, anyIn_of hd hQ fuel _ _ _ h2⟩⟩
theorem region_round {l n id : Nat} {P : Program} {ops : Array Oper} {Q : Exit → Act → World → Prop} {S : World → Prop} {a : Act} {w : World} (hm : P.follows .mixedOrders = true) (hd : NoDefer ops) (hQ : ¬ LetsOut Q)
    (h : wpAnyH P .any ops Q S ops.size (Array.replicate ops.size false) a w.drew) : (Code.region id ops true).wpIn (Fence.wide.inRound l) n P Q a w :=
  wpIn_region_any hm (anyIn_of hd hQ _ _ _ _ (wpAny_of_held _ _ _ _ h))
end Go.Proofs.Ytipbojiialfmeaa
