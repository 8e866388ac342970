/- emend/lines.Count and emend/lines.Line. -/
import Derived.Test.YtcenfckjkboabaaDoorX3
import Derived.RangeFuncNested
namespace Go.Proofs.YtcenfckjkboabaaDoor
open Go.RowKit Go.Shelf Go.Proofs.Utf Go.Lib

attribute [local go_sem] Oper.semAt_some

theorem each_stops (s : ByteArray) (hs : s.size < 4294967281) (n : Nat) (hn : 1 ≤ n) (Bs : Nat) (w : World) (hc : Boxed w Bs 9 (.string s)) :
    SeqStopsK Fence.wide n Tryd.prog 94 #[.pointer (some ⟨Bs, 0, none⟩)] (Ln.encs (n := s.size)) (Kp Bs) (fun ys => ys = lns s) (fun pre => pre <+: lns s) (s.size + 1) w := fun l J Jx W hW hJ _ hY h0 =>
  each1_in s hs n l Bs hn J Jx hY W (kp_below hW _ hc) hJ h0

end Go.Proofs.YtcenfckjkboabaaDoor
