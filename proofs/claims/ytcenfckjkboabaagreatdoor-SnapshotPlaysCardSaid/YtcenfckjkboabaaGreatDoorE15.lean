/- The reference's Copy. -/
import Derived.Test.YtcenfckjkboabaaGreatDoorE14
import Derived.Deep.RegionLaw
namespace Go.Proofs.Dc
open Go.RowKit Go.Proofs Go.Lib Go.Maps

/-- append by an equation of its run, at a step of a region that draws -/
theorem step_append_run {P : Program} {w : World} {ops : Array Oper} {o : Oper} {a : Go.Act} {K : Go.Act → World → Prop} {Q : Exit → Go.Act → World → Prop} {E : Prop} (hgd : o.guard = none) (s x : Operand) (t : TypeId)
    (ho : o.op = .call { callee := .builtin .append, args := #[s, x], argTypes := #[t, t] }) {v vx v' : Value} {w' : World} (hs : a.eval s = v) (hx : a.eval x = vx)
    (hrun : ∀ ty, (Builtin.append_ #[t, t] ty #[v, vx]).run P w = .ok v' w') (h : K (a.put o.dst v') w') :
    if Region.wanted o (yielded ops a.tmps) = true then Oper.wp P o a w K Q else E := by
  rw [if_pos (by simp [Region.wanted, hgd])]
  unfold Oper.wp execOp
  simp only [ho, resolve, invoke, builtin, Sem.run_bind, Sem.run_pure, Result.andThen_ok, List.map_toArray, List.map_cons, List.map_nil, hs, hx, hrun]
  exact h
/-- a copy of documents in a row of its own -/
theorem append_docs {w : World} {B : Nat} {v : Value} {L : List Doc} (h : w.ownsRow B 53 3 v L.length (docCells L)) (hL : L.length ≤ 1000) {B2 : Nat} (hB : B2 ≤ w.heap.size) :
    ∃ v' w', (∀ ty, (Builtin.append_ #[28, 28] ty #[.slice none 0 0, v]).run Tryz.prog w = .ok v' w') ∧ w'.ownsRow B2 53 3 v' L.length (docCells L) ∧ Below w.heap.size w w' := by
  obtain ⟨i0, hi, hz0, hz1, hz2⟩ := infoP info38
  rcases h.2 with ⟨rfl, h0⟩ | ⟨g, cap, cur, rfl, hbg, hg, hlc, hcm, _⟩
  · have : L = [] := List.length_eq_zero_iff.1 h0
    subst this
    refine ⟨.slice none 0 0, w, fun ty => ?_, World.ownsRow_nil _ _ _ _, Below.refl _ _⟩
    have hu : Tryz.prog.underlying 28 = some (.slice 53) := Tryz.underlying28
    simp [Builtin.append_, run_underlying hu, Go.sizeOf, typeInfo, hi, Builtin.lenOf, Builtin.firstCells]
  · have hs := src_take h rfl L.length (Nat.le_refl _)
    rw [List.take_length] at hs
    have hr := fun ty => run_append_own (P := Tryz.prog) w B2 28 ty 53 i0 _ 3 40 Tryz.underlying28 hi hz0 hz1 hz2 rfl (by decide) _ _ _ (World.ownsRow_nil _ _ _ _) ⟨g, 0, none⟩ L.length cap (docCells L) (by rw [docCells_length]) (fun j u hu => by rw [add_off, Nat.zero_add]; exact hs j u hu) (docCells_ones L) (by unfold maxLen; omega) (by omega) hB
    obtain ⟨v', w', h1, h2, h3, h4⟩ := hr 28
    simp only [Nat.zero_add, List.nil_append] at h2
    exact ⟨v', w', fun ty => h1, h2, (Below.refl _ _).grown h3 (Nat.le_refl _) (fun q hq => by cases hq)⟩
set_option maxRecDepth 100000 in
set_option maxHeartbeats 4000000 in
theorem refCopy_any (w : World) (r B : Nat) (v : Value) (L : List Doc) (h : RV w r B v L) (hL : L.length ≤ 1000) :
    Calls Tryz.prog 17 #[.pointer (some ⟨r, 0, none⟩)] w fun e w' => ∃ r2 v2, e = .returned (.pointer (some ⟨r2, 0, none⟩)) ∧ RV w' r2 w.heap.size v2 L ∧ Below w.heap.size w w' := by
  obtain ⟨V, hV⟩ : ∃ V, w.alloc (.cells #[.slice none 0 0] 30) = V := ⟨_, rfl⟩
  have bV : Below w.heap.size w V := by rw [← hV]; exact (Below.refl _ _).alloc (Nat.le_refl _) _
  have hVh : V.heap[w.heap.size]? = some (.cells #[.slice none 0 0] 30 (0, 0)) := by rw [← hV]; exact World.alloc_heap_new w _
  have hVd : V.drew.heap[w.heap.size]? = some (.cells #[.slice none 0 0] 30 (0, 0)) := hVh
  have hVc : V.drew.cell? ⟨w.heap.size, 0, none⟩ = some (.slice none 0 0) := by simp [World.cell?, hVd]
  have hVz : w.heap.size < V.drew.heap.size := (Array.getElem?_eq_some_iff.1 hVd).1
  have bVd : Below w.heap.size w V.drew := bV.drew
  have hrc := (h.below bVd).cell
  obtain ⟨v', w', hrun, hrow, hb⟩ := append_docs (h.below bVd).row hL (B2 := w.heap.size) bVd.size
  have hw1 := (hb.block _ hVz).trans hVd
  have hc1 : w'.cell? ⟨w.heap.size, 0, none⟩ = some (.slice none 0 0) := by simp [World.cell?, hw1]
  have hf1 : w'.frozen? ⟨w.heap.size, 0, none⟩ = false := by simp [World.frozen?, hw1]
  have hg := grown_box v' hw1
  have hw2 := set_box v' hw1
  obtain ⟨p, c, rfl⟩ := own_shape (h.below bVd).row
  obtain ⟨p2, c2, rfl⟩ := own_shape hrow
  have hfin : RV (w'.setCell ⟨w.heap.size, 0, none⟩ (.slice p2 L.length c2)) w.heap.size w.heap.size (.slice p2 L.length c2) L :=
    ⟨hw2, own_kept hrow hg (by
      cases hp : (Value.slice p2 L.length c2).ownBlock with
      | none => exact .inr rfl
      | some k =>
        refine .inl fun e => ?_
        have he := Option.some.inj e
        rcases hrow.2 with ⟨h5, _⟩ | ⟨g, cap, cur, h5, _, h6, _⟩
        · rw [h5] at hp; cases hp
        · rw [h5] at hp
          obtain rfl : g = k := by simpa [Value.ownBlock] using hp
          rw [he, hw1] at h6
          cases h6), Nat.le_refl _⟩
  have hbf : Below w.heap.size w (w'.setCell ⟨w.heap.size, 0, none⟩ (.slice p2 L.length c2)) := (bVd.trans (hb.mono bVd.size)).grown hg (Nat.le_trans bVd.size hb.size) (fun q hq => by cases hq; exact Nat.le_refl _)
  have HF := Lib.hid hfin
  have HBF := Lib.hid hbf
  have HRUN := Lib.hid hrun
  clear h bV hVh hVd hVz bVd hrow hb hw1 hw2 hg hfin hbf hrun
  go_enter Tryz.func17, Tryz.ntmps17
  go_upto_region 2 with fail
  clear hV
  go_region_law (refine step_append_run (v := .slice none 0 0) rfl (.tmp 10) (.tmp 14) 28 rfl rfl rfl HRUN.out ?_)
  all_goals (go_wp2_with fail; go_ret; exact ⟨_, _, rfl, HF.out, HBF.out⟩)
end Go.Proofs.Dc
