/- JtextTiles: the walk. -/
import Derived.Test.YtaiaiiepbpbmmaaGreatDoorJ9
namespace Go.Proofs.Jt
open Go.RowKit Go.Proofs Go.Lib Go.Proofs.Utf

/-- what Tokens answers, as one contract -/
theorem tokens_any (s : ByteArray) (w : World) (hT : Tabs w) (hs : s.size ≤ 16777216) :
 Calls Tryz.prog 110 #[.string s] w fun e w' => ∃ v, e = .returned (.tuple #[v, .int .i64 ((toksL s.data.toList).2.1 : Nat), .int .i64 ((toksL s.data.toList).2.2 : Nat)]) ∧ w'.ownsRow w.heap.size 222 4 v (toksL s.data.toList).1.length (tokCells (toksL s.data.toList).1) ∧ Below w.heap.size w w' := by
 unfold toksL
 cases hv : validD s.data.toList with
 | true => exact tokens_walk s w hT hs hv _ rfl
 | false =>
  refine (tokens_broken s w hT hs hv).mono ?_
  rintro e w' ⟨rfl, hb⟩
  exact ⟨_, rfl, World.ownsRow_nil _ _ _ _, hb⟩
theorem Tiles.at_ {l : List UInt8} : ∀ {ts : List Tok} {p : Nat} (k : Nat) {t : Tok}, Tiles l p ts → ts[k]? = some t → ∀ q, q = (if k = 0 then p else (ts.getD (k - 1) ⟨0, [], 0, 0⟩).to_) →
 q ≤ t.fr ∧ t.fr < t.to_ ∧ t.to_ ≤ l.length ∧ Blk l q t.fr ∧ (t.kind ≠ 4 → t.text = (l.drop t.fr).take (t.to_ - t.fr))
 | [], _, k, t, _, h, _, _ => by simp at h
 | u :: ts, p, 0, t, h, hk, q, hq => by
  simp at hk hq
  subst hk hq
  exact ⟨h.1, h.2.1, h.2.2.1, h.2.2.2.1, h.2.2.2.2.1⟩
 | u :: ts, p, k + 1, t, h, hk, q, hq => by
  simp at hk hq
  refine Tiles.at_ k (p := u.to_) h.2.2.2.2.2 hk q ?_
  rw [hq]
  cases k with
  | zero => simp
  | succ k => simp
end Go.Proofs.Jt
