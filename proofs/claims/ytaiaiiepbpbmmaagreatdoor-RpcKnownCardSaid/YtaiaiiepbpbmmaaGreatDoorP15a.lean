/- RpcKnown: its texts, read and put. Printed by gen_p15.py. -/
import Derived.Test.YtaiaiiepbpbmmaaGreatDoorP10
import Derived.Test.YtaiaiiepbpbmmaaGreatDoorP11
import Derived.Test.YtaiaiiepbpbmmaaGreatDoorP12
import Derived.Test.YtaiaiiepbpbmmaaGreatDoorP13
namespace Go.Proofs.Rp
open Go.RowKit Go.Maps Go.Lib Go.Proofs.Utf Go.Proofs.Jt Go.Proofs

/-- a text as the law's own examples have it -/
theorem is_lit {w : World} (s : ByteArray) (k ik iN : Int) (I : ByteArray) (c : Int) (hT : Tabs w) (hE : ErrV w) (hs : s.size ≤ 400000) (h : (readV s.data.toList).1.k = k ∧ (readV s.data.toList).2.1.k = ik ∧ (readV s.data.toList).2.1.n = iN ∧ (readV s.data.toList).2.1.s = I.data.toList ∧ (readV s.data.toList).2.2 = c) :
    Calls Tryz.prog 49 #[.string s, .int .i64 k, .agg #[.int .i64 ik, .int .i64 iN, .string I], .int .i64 c] w fun e w' => e = .returned (.bool true) ∧ Below w.heap.size w w' := by
  obtain ⟨h1, h2, h3, h4, h5⟩ := h
  rw [← h1, ← h2, ← h3, ← h5]
  exact is_any49 s hT hE hs _ _ I (by rw [h4]) _ rfl
def putB : ByteArray := ⟨#[123, 34, 106, 115, 111, 110, 114, 112, 99, 34, 58, 34, 50, 46, 48, 34, 44, 34, 105, 100, 34, 58, 34, 120, 34, 44, 34, 109, 101, 116, 104, 111, 100, 34, 58, 34, 109, 34, 44, 34, 112, 97, 114, 97, 109, 115, 34, 58, 91, 49, 93, 125]⟩
def failB : ByteArray := ⟨#[123, 34, 106, 115, 111, 110, 114, 112, 99, 34, 58, 34, 50, 46, 48, 34, 44, 34, 105, 100, 34, 58, 110, 117, 108, 108, 44, 34, 101, 114, 114, 111, 114, 34, 58, 123, 34, 99, 111, 100, 101, 34, 58, 45, 51, 50, 55, 48, 48, 44, 34, 109, 101, 115, 115, 97, 103, 101, 34, 58, 34, 112, 97, 114, 115, 101, 32, 101, 114, 114, 111, 114, 34, 125, 125]⟩
def one1 : JV := .mk 3 [49] [] []
def arr1 : JV := .mk 5 [] [] [one1]
theorem put_lit : putM ⟨1, ⟨2, 0, [120]⟩, [109], arr1⟩ = (putB.data.toList, 0) := by decide +kernel
theorem put_bad : putM ⟨3, ⟨1, 1, []⟩, [], jn 0⟩ = ((⟨#[]⟩ : ByteArray).data.toList, 2) := by
  unfold putM
  rw [if_neg (by decide)]
theorem itoa_m : itoa (-32700) = [45, 51, 50, 55, 48, 48] := by
  rw [itoa, if_pos (by decide)]
  show 45 :: decDigits 32700 = _
  rw [decDigits, dif_neg (by decide), decDigits, dif_neg (by decide), decDigits, dif_neg (by decide), decDigits, dif_neg (by decide), decDigits, dif_pos (by decide)]
  rfl
theorem fail_lit : failV id0 (-32700) (jn 0) = (failB.data.toList, 0) := by
  unfold failV
  rw [if_pos (by decide)]
  unfold failO faultO numJ
  rw [itoa_m]
  decide +kernel
theorem fail_bad : failV id7 5 (jn 0) = ((⟨#[]⟩ : ByteArray).data.toList, 2) := by
  unfold failV
  rw [if_neg (by decide)]
theorem res_bad : resV ⟨3, 0, []⟩ (jn 0) = ((⟨#[]⟩ : ByteArray).data.toList, 2) := by
  unfold resV
  rw [if_neg (by decide)]
theorem arr1_ki {w : World} {g : Nat} (h : w.heap[g]? = some (.cells #[.int .i64 3, .string ⟨#[49]⟩, .slice none 0 0, .slice none 0 0] 25 (0, 0))) : KI w arr1 none 0 (some ⟨g, 0, none⟩) 1 := by
  obtain ⟨a0, a1, a2, a3⟩ := cells4 h
  refine KI.rows (L := [leafC one1]) (fun i s hs => by cases hs) ⟨by decide, by decide, fun s hs => by cases hs⟩ (fun i c hc => ?_)
  cases i with
  | zero =>
    obtain rfl := Option.some.inj hc
    exact ⟨⟨_, rfl, a0, a1, a2, a3, (Array.getElem?_eq_some_iff.1 h).1⟩, ki_leaf rfl rfl, by decide⟩
  | succ i => cases hc
end Go.Proofs.Rp
