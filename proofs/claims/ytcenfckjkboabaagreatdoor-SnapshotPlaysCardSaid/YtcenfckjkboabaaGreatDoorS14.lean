/- The laws' act on a Snapshots; what all generations keep. -/
import Derived.Test.YtcenfckjkboabaaGreatDoorS11
import Derived.Test.YtcenfckjkboabaaGreatDoorS13
namespace Go.Proofs.Dc
open Go.RowKit Go.Proofs Go.Lib Go.Maps

/-- what all generations are -/
structure GI (G : List Gen) (N : Nat) : Prop where
  ne : G ≠ []
  inv : ∀ g ∈ G, Inv g.docs
  len : G.length ≤ N
  held : ∀ g ∈ G, g.held ≤ N
theorem GI.mono {G : List Gen} {N N' : Nat} (h : GI G N) (hn : N ≤ N') : GI G N' := ⟨h.ne, h.inv, Nat.le_trans h.len hn, fun g hg => Nat.le_trans (h.held g hg) hn⟩
theorem GI.last {G : List Gen} {N : Nat} (h : GI G N) : ∃ g, G[G.length - 1]? = some g ∧ Inv g.docs := by
  have hl : 0 < G.length := List.length_pos_iff.2 h.ne
  refine ⟨_, List.getElem?_eq_getElem (by omega), h.inv _ (List.getElem_mem _)⟩
theorem GI.add {G : List Gen} {N : Nat} (h : GI G N) {L : List Doc} (hL : Inv L) (u : List UInt8) : GI (addG G L u) (N + 1) := by
  refine ⟨by simp [addG], fun g hg => ?_, by simp [addG]; exact h.len, fun g hg => ?_⟩
  · rcases List.mem_append.1 hg with hg | hg
    · exact h.inv g hg
    · rw [List.mem_singleton.1 hg]; exact hL
  · rcases List.mem_append.1 hg with hg | hg
    · have := h.held g hg; omega
    · rw [List.mem_singleton.1 hg]; exact Nat.zero_le _
theorem GI.hold {G : List Gen} {N : Nat} (h : GI G N) : GI (holdG G) (N + 1) := by
  unfold holdG
  obtain ⟨g, hg, hi⟩ := h.last
  rw [hg]
  simp only
  have hm := List.mem_of_getElem? hg
  refine ⟨fun e => by have := congrArg List.length e; simp at this; exact h.ne this, fun x hx => ?_, by simp; have := h.len; omega, fun x hx => ?_⟩
  · rcases List.mem_or_eq_of_mem_set hx with hx | rfl
    · exact h.inv x hx
    · exact hi
  · rcases List.mem_or_eq_of_mem_set hx with hx | rfl
    · have := h.held x hx; omega
    · have := h.held g hm; simp only; omega
theorem snow_any {w : World} {s m lo : Nat} {G : List Gen} (h : SV w s m lo G) : Calls Tryz.prog 24 #[.pointer (some ⟨s, 0, none⟩)] w fun e w' => e = .returned (.int .i64 ((G.length - 1 : Nat) : Int)) ∧ w = w' := by
  obtain ⟨_, _, _, k⟩ := h
  exact now_any k
theorem skept_any {w : World} {s m lo : Nat} {G : List Gen} (h : SV w s m lo G) : Calls Tryz.prog 29 #[.pointer (some ⟨s, 0, none⟩)] w fun e w' => e = .returned (.int .i64 ((cnt (kept G) G.length : Nat) : Int)) ∧ w = w' := by
  obtain ⟨_, _, _, k⟩ := h
  exact kept_any k
end Go.Proofs.Dc
namespace Go.Proofs.Sn
open Go.RowKit Go.Proofs Go.Lib Go.Maps Go.Proofs.Dc

/-- what an act answers, and makes of the last documents -/
def actE (L : List Doc) (x : Act) : Int :=
  let S := bits BinOp.and IntKind.i64 x.todo 7
  if S = 0 then openE L x.uri.data.toList x.text.data.toList
  else if S = 1 ∨ S = 2 then chgE L x.uri.data.toList x.ver x.l
  else if S = 3 then closeE L x.uri.data.toList else 5
def actD (L : List Doc) (x : Act) : List Doc :=
  let S := bits BinOp.and IntKind.i64 x.todo 7
  if S = 0 then openL L x.uri.data.toList x.text.data.toList x.ver
  else if S = 1 ∨ S = 2 then chgL L x.uri.data.toList x.ver x.l
  else if S = 3 then without x.uri.data.toList L else L
theorem inv_act {L : List Doc} (h : Inv L) (x : Act) : Inv (actD L x) := by
  unfold actD
  simp only
  split
  · exact h.opened _ _ _
  · split
    · exact h.changed _ _ _
    · split
      · exact h.closed _
      · exact h
theorem one_act {L : List Doc} (h : Inv L) (x : Act) (he : actE L x = 0) : OneU L (actD L x) x.uri.data.toList := by
  unfold actE at he
  unfold actD
  simp only at he ⊢
  split at he
  · rename_i h0
    rw [if_pos h0]
    exact one_open h.ord _ _ _ he
  · rename_i h0
    rw [if_neg h0]
    split at he
    · rename_i h1
      rw [if_pos h1]
      exact one_chg h.ord _ _ _ he
    · rename_i h1
      rw [if_neg h1]
      split at he
      · rename_i h3
        rw [if_pos h3]
        exact one_close h.ord _
      · cases he
/-- all generations behind an act -/
def actG (G : List Gen) (x : Act) : List Gen := match G[G.length - 1]? with
  | some g => nextG G (actE g.docs x) (actD g.docs x) x.uri.data.toList
  | none => G
def actR (G : List Gen) (x : Act) : Int := match G[G.length - 1]? with | some g => actE g.docs x | none => 5
theorem gi_act {G : List Gen} {N : Nat} (h : GI G N) (x : Act) : GI (actG G x) (N + 1) := by
  obtain ⟨g, hg, hi⟩ := h.last
  unfold actG
  rw [hg]
  simp only
  unfold nextG
  split
  · exact h.add (inv_act hi x) _
  · exact h.mono (by omega)
def actVal (x : Act) : Value := .agg #[.int .i64 x.todo, .int .i64 x.gn, .string x.uri, .string x.text, .int .i64 x.ver, .slice x.lp x.ln x.lc]
def actBox (x : Act) : Obj := .cells #[.int .i64 x.todo, .int .i64 x.gn, .string x.uri, .string x.text, .int .i64 x.ver, .slice x.lp x.ln x.lc] 47
set_option maxRecDepth 100000 in
set_option maxHeartbeats 4000000 in
theorem act_any {w : World} (hT : Tabs w) {s m lo : Nat} {G : List Gen} (hlo6 : 6 ≤ lo) (h : SV w s m lo G) {N : Nat} (hG : GI G N) (hN : N ≤ 1000) (x : Act) (hok : okA x) (hn : x.ln = x.l.length) (hC : ChgsAt w x.lp x.l) :
    Calls Tryz.prog 21 #[.pointer (some ⟨s, 0, none⟩), actVal x] w fun e w' => e = .returned (.int .i64 (actR G x)) ∧ SV w' s m lo (actG G x) ∧ FsK w w' s m ∧ Below lo w w' := by
  obtain ⟨g, hg, hi⟩ := hG.last
  have hl := hG.len
  obtain ⟨hus, hts, hls, hxs⟩ := hok
  have hlw := sv_lo h
  obtain ⟨V, hV⟩ : ∃ V, w.alloc (actBox x) = V := ⟨_, rfl⟩
  have bV : Below w.heap.size w V := by rw [← hV]; exact (Below.refl _ _).alloc (Nat.le_refl _) _
  have hb : V.heap[w.heap.size]? = some (actBox x) := by rw [← hV]; exact World.alloc_heap_new w _
  unfold actBox at hb
  have c0 : V.cell? ⟨w.heap.size, 0, none⟩ = some (.int .i64 x.todo) := by simp [World.cell?, hb]
  have c2 : V.cell? ⟨w.heap.size, 2, none⟩ = some (.string x.uri) := by simp [World.cell?, hb]
  have c3 : V.cell? ⟨w.heap.size, 3, none⟩ = some (.string x.text) := by simp [World.cell?, hb]
  have c4 : V.cell? ⟨w.heap.size, 4, none⟩ = some (.int .i64 x.ver) := by simp [World.cell?, hb]
  have c5 : V.cell? ⟨w.heap.size, 5, none⟩ = some (.slice x.lp x.ln x.lc) := by simp [World.cell?, hb]
  have hop := sopen_any (hT.below bV) hlo6 (h.below bV) (by omega) g hg hi x.uri x.text x.ver (by omega) (by omega)
  have hch := schange_any (hT.below bV) hlo6 (h.below bV) (by omega) g hg hi x.uri x.ver x.lp x.ln x.lc x.l (by omega) hn (by omega) (hC.below bV) (fun y hy => by have := hxs y hy; omega)
  have hcl := sclose_any (hT.below bV) hlo6 (h.below bV) (by omega) g hg hi x.uri (by omega)
  have hR : actR G x = actE g.docs x := by unfold actR; rw [hg]
  have hA : actG G x = nextG G (actE g.docs x) (actD g.docs x) x.uri.data.toList := by unfold actG; rw [hg]
  rw [hR, hA]
  unfold actE actD
  have HB := Lib.hid bV
  have HSV := Lib.hid (h.below bV)
  have HLW := Lib.hid hlw
  clear h hG hn hC hR hA hb bV hg hi
  unfold actVal
  unfold actBox at hV
  simp only
  generalize hS : bits BinOp.and IntKind.i64 x.todo 7 = S at *
  have HS := Lib.hid hS
  by_cases z0 : S = 0
  · subst z0
    simp only [if_true]
    go_enter Tryz.func21, Tryz.ntmps21
    go_wp2_with (first | (go_at_call 33; refine hop.mono ?_; rintro e w1 ⟨rfl, h1, h2, h3⟩))
    go_ret
    exact ⟨rfl, h1, (FsK.below HB.out).trans h2, (HB.out.mono HLW.out).trans h3⟩
  · have z0f : (S == 0) = false := beq_eq_false_iff_ne.2 z0
    simp only [if_neg z0]
    by_cases z1 : S = 1 ∨ S = 2
    · simp only [if_pos z1]
      rcases z1 with rfl | rfl
      · go_enter Tryz.func21, Tryz.ntmps21
        go_wp2_with (first | (go_at_call 36; refine hch.mono ?_; rintro e w1 ⟨rfl, h1, h2, h3⟩))
        go_ret
        exact ⟨rfl, h1, (FsK.below HB.out).trans h2, (HB.out.mono HLW.out).trans h3⟩
      · go_enter Tryz.func21, Tryz.ntmps21
        go_wp2_with (first | (go_at_call 36; refine hch.mono ?_; rintro e w1 ⟨rfl, h1, h2, h3⟩))
        go_ret
        exact ⟨rfl, h1, (FsK.below HB.out).trans h2, (HB.out.mono HLW.out).trans h3⟩
    · simp only [if_neg z1]
      have z1f : (S == 1) = false := beq_eq_false_iff_ne.2 (fun e => z1 (.inl e))
      have z2f : (S == 2) = false := beq_eq_false_iff_ne.2 (fun e => z1 (.inr e))
      clear z1
      by_cases z3 : S = 3
      · subst z3
        simp only [if_true]
        go_enter Tryz.func21, Tryz.ntmps21
        go_wp2_with (first | (go_at_call 38; refine hcl.mono ?_; rintro e w1 ⟨rfl, h1, h2, h3⟩))
        go_ret
        exact ⟨rfl, h1, (FsK.below HB.out).trans h2, (HB.out.mono HLW.out).trans h3⟩
      · have z3f : (S == 3) = false := beq_eq_false_iff_ne.2 z3
        simp only [if_neg z3]
        go_enter Tryz.func21, Tryz.ntmps21
        go_wp2_with fail
        go_ret
        exact ⟨rfl, HSV.out, FsK.below HB.out, HB.out.mono HLW.out⟩
end Go.Proofs.Sn
