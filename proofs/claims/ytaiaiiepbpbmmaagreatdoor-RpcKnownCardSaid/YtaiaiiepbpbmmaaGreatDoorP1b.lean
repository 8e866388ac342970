/- Messages of JSON-RPC, plain: replies. No program in sight. -/
import Derived.Test.YtaiaiiepbpbmmaaGreatDoorP1
namespace Go.Proofs.Rp
open Go.Lib Go.Proofs.Jt Go.Proofs.Utf

theorem read_res {i : IdV} {v : JV} {s : List UInt8} (h0 : -9223372036854775808 ≤ i.n) (h1 : i.n ≤ 9223372036854775807) (h : resV i v = (s, 0)) : readV s = (⟨3, i, [], jn 0⟩, i, 0) := by
  unfold resV at h
  split at h
  · rename_i hm
    have hp := put_ok h
    unfold readV
    rw [hp]
    dsimp only
    rw [if_neg (by simp), if_neg (by simp [JV.kind, resO]), readJ, if_pos (by rfl), idOf_val hm h0 h1 (by rfl)]
  · have := congrArg Prod.snd h
    cases this
theorem read_fail {i : IdV} {c : Int} {v : JV} {s : List UInt8} (h0 : -9223372036854775808 ≤ i.n) (h1 : i.n ≤ 9223372036854775807) (h : failV i c v = (s, 0)) : readV s = (⟨3, i, [], jn 0⟩, i, 0) := by
  unfold failV at h
  split at h
  · rename_i hm
    have hp := put_ok h
    unfold readV
    rw [hp]
    dsimp only
    rw [if_neg (by simp), if_neg (by simp [JV.kind, failO]), readJ, if_pos (by rfl), idOf_val hm.1 h0 h1 (by rfl)]
  · have := congrArg Prod.snd h
    cases this
theorem res_put {i : IdV} {v : JV} {s : List UInt8} (h : resV i v = (s, 0)) : i.may = true ∧ parV s = (resO i v, 0) := by
  unfold resV at h
  split at h
  · rename_i hm
    exact ⟨hm, put_ok h⟩
  · have := congrArg Prod.snd h
    cases this
theorem fail_put {i : IdV} {c : Int} {v : JV} {s : List UInt8} (h : failV i c v = (s, 0)) : parV s = (failO i c v, 0) := by
  unfold failV at h
  split at h
  · exact put_ok h
  · have := congrArg Prod.snd h
    cases this
/-- replies to unlike ids are unlike -/
theorem res_inj {i j : IdV} {v : JV} {s t : List UInt8} (hi0 : -9223372036854775808 ≤ i.n) (hi1 : i.n ≤ 9223372036854775807) (hj0 : -9223372036854775808 ≤ j.n) (hj1 : j.n ≤ 9223372036854775807)
    (h : resV i v = (s, 0)) (h' : resV j v = (t, 0)) : s = t ↔ i = j := by
  constructor
  · intro e
    subst e
    have h2 := read_res hi0 hi1 h
    rw [read_res hj0 hj1 h'] at h2
    exact (congrArg (fun x => x.2.1) h2).symm
  · intro e
    subst e
    rw [h] at h'
    exact congrArg Prod.fst h'
theorem res_fail {i j : IdV} {v v' : JV} {c : Int} {s t : List UInt8} (h : resV i v = (s, 0)) (h' : failV j c v' = (t, 0)) : s ≠ t := fun e => by
  subst e
  have h1 := (res_put h).2
  rw [fail_put h'] at h1
  have h2 := congrArg (fun x => x.1.keys) h1
  simp [failO, resO, JV.keys, kResult, kError] at h2
theorem res_err {i : IdV} {v : JV} {s : List UInt8} {e : Nat} (h : resV i v = (s, e)) (he : e ≠ 0) : s = [] := by
  unfold resV at h
  split at h
  · exact put_err h he
  · exact (congrArg Prod.fst h).symm
theorem fail_err {i : IdV} {c : Int} {v : JV} {s : List UInt8} {e : Nat} (h : failV i c v = (s, e)) (he : e ≠ 0) : s = [] := by
  unfold failV at h
  split at h
  · exact put_err h he
  · exact (congrArg Prod.fst h).symm
end Go.Proofs.Rp
