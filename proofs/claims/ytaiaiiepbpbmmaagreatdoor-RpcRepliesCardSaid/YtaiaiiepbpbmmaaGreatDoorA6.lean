/- RpcReplies for its arguments. -/
import Derived.Test.YtaiaiiepbpbmmaaGreatDoorQ6
import Derived.Test.YtaiaiiepbpbmmaaGreatDoorA4
namespace Go.Proofs.Rp
open Go.RowKit Go.Maps Go.Proofs Go.Lib Go.Proofs.Utf Go.Proofs.Jt

theorem replies_law {w : World} {u v : Value} {i : IdV} {x : JV} {c : Int} (hT : Tabs w) (hE : ErrV w) (hTen : TenV w) (hWV : WordV w) (hi : IArg u i) (hx : JArg w v x) (hc : (Lit.int .i64 c).wf = true) : Calls Tryz.prog 8 #[u, v, .int .i64 c] w fun e w' => e = .returned (.bool true) ∧ Below w.heap.size w w' := by
 obtain ⟨I, rfl, hI, hi0, hi1⟩ := hi
 obtain ⟨kp, kc, ip, ic, rfl, hK, hpl⟩ := hx
 have hb : -9223372036854775808 ≤ c ∧ c ≤ 9223372036854775807 := by simpa [Lit.wf, IntKind.min, IntKind.max, IntKind.signed, IntKind.bits] using hc
 exact replies_walk i I hI hi0 hi1 c hb.1 hb.2 rfl hpl hT hE hTen hWV hK
end Go.Proofs.Rp
