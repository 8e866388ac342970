/- What json's functions leave, in words of cells (for the laws of the layers above). -/
import Derived.Test.YtaiaiiepbpbmmaaGreatDoorVF2
import Derived.Test.YtaiaiiepbpbmmaaGreatDoorI2
namespace Go.Proofs.Jt
open Go.RowKit Go.Maps Go.Lib Go.Proofs.Utf Go.Proofs

theorem fieldA_is {w : World} {x : JV} {S K F : ByteArray} {f : JV} {b : Bool} {kp ip : Option Addr} {kc ic : Nat} (h : KI w x kp kc ip ic) (hwt : x.wt ≤ 1000000) (hS : (⟨x.str.toArray⟩ : ByteArray) = S) (hf : (fieldV x K.data.toList).getD (jn 0) = f) (hb : (fieldV x K.data.toList).isSome = b) (hF : (⟨f.str.toArray⟩ : ByteArray) = F) : ∀ w', Below w.heap.size w w' →
 Calls Tryz.prog 27 #[.agg #[.int .i64 x.kind, .string S, .slice kp x.keys.length kc, .slice ip x.items.length ic], .string K] w' fun e w'' => ∃ fp fc gp gc, e = .returned (.tuple #[.agg #[.int .i64 f.kind, .string F, .slice fp f.keys.length fc, .slice gp f.items.length gc], .bool b]) ∧ KP w'' (w'.heap.size ≤ ·) f fp fc gp gc ∧ f.str.length ≤ maxLen ∧ Below w'.heap.size w' w'' := fun w' hbw => by
 have h1 := field_any h hwt K w' hbw
 unfold jval at h1
 rw [hS] at h1
 refine h1.mono ?_
 rintro e w'' ⟨fp, fc, gp, gc, h2, h3, h4, h5⟩
 rw [hf] at h2 h3 h4
 rw [hb] at h2
 exact ⟨fp, fc, gp, gc, by rw [h2, ← hF]; rfl, h3, h4, h5⟩
theorem str_wt (x : JV) : x.str.length ≤ x.wt := by
 cases x
 rw [JV.wt]
 show _ ≤ _
 simp only [str_mk]
 omega
end Go.Proofs.Jt
