/- RpcPuts for its argument. -/
import Derived.Test.YtaiaiiepbpbmmaaGreatDoorQ8
import Derived.Test.YtaiaiiepbpbmmaaGreatDoorA2
namespace Go.Proofs.Rp
open Go.RowKit Go.Maps Go.Proofs Go.Lib Go.Proofs.Utf Go.Proofs.Jt

theorem puts_law24 {w : World} {v : Value} {k : Int} {i : IdV} {ms : List UInt8} {p : JV} (hT : Tabs w) (hE : ErrV w) (hTen : TenV w) (h : MArg w v k i ms p) : Calls Tryz.prog 6 #[v] w fun e w' => e = .returned (.bool true) ∧ Below w.heap.size w w' := by
 obtain ⟨I, M, P, kp, kc, ip, ic, rfl, hI, hM, hP, h0, h1, hpl, hK⟩ := h
 exact puts_walk24 k i ms p I M P hI hM hP h0 h1 hpl hT hE hTen hK
end Go.Proofs.Rp
