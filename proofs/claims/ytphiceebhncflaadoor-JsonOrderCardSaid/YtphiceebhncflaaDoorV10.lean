/- Values of JSON in memory: Check; put. -/
import Derived.Test.YtphiceebhncflaaDoorV9
namespace Go.Proofs.Jt
open Go.RowKit Go.Maps Go.Lib Go.Proofs.Utf Go.Proofs

set_option maxRecDepth 100000 in
set_option maxHeartbeats 1000000 in
theorem check_any {w : World} {x : JV} {kp ip : Option Addr} {kc ic : Nat} (hT : Tabs w) (h : KI w x kp kc ip ic) (hwt : x.wt ≤ 1000000) : ∀ w', Below w.heap.size w w' → Calls Tryd.prog 23 #[jval x kp kc ip ic] w' fun e w'' => e = .returned (.int .i64 (x.chk : Nat)) ∧ Below w'.heap.size w' w'' := by
  intro w' hb
  obtain ⟨W, hW⟩ : ∃ W, w'.alloc (.cells #[.int .i64 x.kind, .string ⟨x.str.toArray⟩, .slice kp x.keys.length kc, .slice ip x.items.length ic] 45) = W := ⟨_, rfl⟩
  have bW : Below w'.heap.size w' W := by rw [← hW]; exact (Below.refl _ _).alloc (Nat.le_refl _) _
  have hbx := box_cells hW
  obtain ⟨c0, c1, c2, c3⟩ := hbx W (Below.refl _ _)
  have hB : ∀ W', Below W.heap.size W W' → Below w.heap.size w W' := fun W' hb' => hb.trans ((bW.trans (hb'.mono bW.size)).mono hb.size)
  have hdp := depth_any h hwt W (hB W (Below.refl _ _))
  have hfd := fun W' hb' => found_any hT h hwt W' (hB W' hb')
  have hdw := dep_wt x
  obtain ⟨D, hD⟩ : ∃ D, x.dep = D := ⟨_, rfl⟩
  obtain ⟨F, hF⟩ : ∃ F, x.fnd = F := ⟨_, rfl⟩
  have hck : x.chk = if 64 < D then 3 else F := by unfold JV.chk; rw [hD, hF]
  rw [hck]
  simp only [hD] at hdp hdw
  simp only [hF] at hfd
  unfold jval at hdp hfd ⊢
  obtain ⟨S, hS⟩ : ∃ S : ByteArray, (⟨x.str.toArray⟩ : ByteArray) = S := ⟨_, rfl⟩
  simp only [hS] at hW hbx hdp hfd c1 ⊢
  have HBX := Lib.hid hbx
  have HFD := Lib.hid hfd
  have HBW := Lib.hid bW
  clear hbx hfd bW hB h hT hD hF hck hS hb
  by_cases h64 : 64 < D
  · rw [if_pos h64]
    have t : (64 : Int) < (D : Int) := by omega
    go_enter Tryd.func23, Tryd.ntmps23
    go_wp2_with (first | (go_at_call 46; refine hdp.mono ?_; rintro e w1 ⟨rfl, hb1⟩))
    go_ret
    exact ⟨rfl, HBW.out.trans (hb1.mono HBW.out.size)⟩
  · rw [if_neg h64]
    have t : ¬ (64 : Int) < (D : Int) := by omega
    go_enter Tryd.func23, Tryd.ntmps23
    go_wp2_with (first
      | (go_at_call 46; refine hdp.mono ?_; rintro e w1 ⟨rfl, hb1⟩; obtain ⟨d0, d1, d2, d3⟩ := HBX.out w1 hb1)
      | (go_at_call 47; refine (HFD.out w1 hb1).mono ?_; rintro e w2 ⟨rfl, hb2⟩; have hb3 := hb1.trans (hb2.mono hb1.size)))
    go_ret
    exact ⟨rfl, HBW.out.trans (hb3.mono HBW.out.size)⟩
end Go.Proofs.Jt
