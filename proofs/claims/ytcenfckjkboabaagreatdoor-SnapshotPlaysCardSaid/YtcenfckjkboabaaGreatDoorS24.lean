/- The document's generations in memory: the next one; Open, Change, Close. -/
import Derived.Test.YtcenfckjkboabaaGreatDoorS23
namespace Go.Proofs.Dc
open Go.RowKit Go.Proofs Go.Lib Go.Maps

theorem RV.mono {w : World} {d B B' : Nat} {v : Value} {L : List Doc} (h : RV w d B v L) (hb : B' ≤ B) : RV w d B' v L := ⟨h.hd, h.row.mono hb, Nat.le_trans hb h.lo⟩
theorem nextG_yes (G : List Gen) (L : List Doc) (u : List UInt8) : nextG G 0 L u = addG G L u := if_pos rfl
theorem nextG_no {G : List Gen} {E : Int} (h : ¬ E = 0) (L : List Doc) (u : List UInt8) : nextG G E L u = G := if_neg h
set_option maxRecDepth 100000 in
set_option maxHeartbeats 2000000 in
theorem rnext_any {w : World} {r lo : Nat} {v : Value} {Bs : List Nat} {G : List Gen} (h : AV w r lo v Bs G) (hG : G.length ≤ 1000) {d : Nat} {vd : Value} {L : List Doc} (hr : RV w d lo vd L) (u : ByteArray) (E : Int) :
    Calls Tryz.prog 98 #[.pointer (some ⟨r, 0, none⟩), .pointer (some ⟨d, 0, none⟩), .string u, .int .i64 E] w fun e w' => e = .returned (.int .i64 E) ∧ (∃ v' Bs', AV w' r lo v' Bs' (nextG G E L u.data.toList)) ∧ Keeps w w' ∧ Below lo w w' := by
  by_cases hE : E = 0
  · subst hE
    obtain ⟨v', w', hrun, c1, f1, ⟨g, c, rfl⟩, ha, hk, hb⟩ := h.add hr u hG
    rw [nextG_yes]
    have hc := h.cell
    have hcc := (h.below (((Below.refl w.heap.size w).alloc (Nat.le_refl _) (.cells #[.pointer (some ⟨d, 0, none⟩), .int .i64 0, .string u] 106)).alloc (by simp) (.cells #[.pointer (some ⟨w.heap.size, 0, none⟩)] 104))).cell
    obtain ⟨p, cc, rfl⟩ := own_shape h.row
    have HA := Lib.hid ha
    have HK := Lib.hid hk
    have HB := Lib.hid hb
    have HR := Lib.hid hrun
    clear h hr ha hk hb hrun
    go_enter Tryz.func98, Tryz.ntmps98
    go_wp2_with (first
      | (at_builtin; refine wpList_append_run (v := .slice p G.length cc) (vx := .slice (some ⟨w.heap.size + 1, 0, none⟩) 1 1) rfl (.tmp 15) (.tmp 20) 107 rfl rfl rfl HR.out ?_))
    go_ret
    exact ⟨rfl, ⟨_, _, HA.out⟩, HK.out, HB.out⟩
  · rw [nextG_no hE]
    have hE0 : (E == 0) = false := beq_eq_false_iff_ne.2 hE
    have H := Lib.hid h
    clear h hr hE
    go_enter Tryz.func98, Tryz.ntmps98
    go_wp2
    go_ret
    exact ⟨rfl, ⟨_, _, H.out⟩, Keeps.refl _, Below.refl _ _⟩
section
variable {w : World} {r lo : Nat} {v : Value} {Bs : List Nat} {G : List Gen} (h : AV w r lo v Bs G) (hl : G.length ≤ 1000) (x : Gen) (hx : G[G.length - 1]? = some x) (hI : Inv x.docs)
include h hl hx hI
set_option maxRecDepth 100000 in
set_option maxHeartbeats 2000000 in
theorem ropen_any (u t : ByteArray) (ver : Int) (hu : u.size ≤ 1000000) (ht : t.size ≤ 1000000) :
    Calls Tryz.prog 67 #[.pointer (some ⟨r, 0, none⟩), .string u, .string t, .int .i64 ver] w fun e w' => e = .returned (.int .i64 (openE x.docs u.data.toList t.data.toList)) ∧ (∃ v' Bs', AV w' r lo v' Bs' (nextG G (openE x.docs u.data.toList t.data.toList) (openL x.docs u.data.toList t.data.toList ver) u.data.toList)) ∧ Keeps w w' ∧ Below lo w w' := by
  have hne : G ≠ [] := fun e => by rw [e] at hx; cases hx
  have hlw : lo ≤ w.heap.size := Nat.le_trans h.lor (Nat.le_of_lt h.lt)
  have hlast := rlast_any h hne hl x hx (by have := hI.len; omega)
  have hop := fun w1 d vd (hr : RV w1 d w.heap.size vd x.docs) => refOpen_any w1 d w.heap.size vd x.docs hr hI.ord u t ver hI.len hu ht
  have hnx := fun w2 d vd (hb : Below w.heap.size w w2) (hr : RV w2 d w.heap.size vd (openL x.docs u.data.toList t.data.toList ver)) => rnext_any (h.below hb) hl (hr.mono hlw) u (openE x.docs u.data.toList t.data.toList)
  obtain ⟨E, hE⟩ : ∃ E, openE x.docs u.data.toList t.data.toList = E := ⟨_, rfl⟩
  obtain ⟨LL, hLL⟩ : ∃ LL, openL x.docs u.data.toList t.data.toList ver = LL := ⟨_, rfl⟩
  obtain ⟨GG, hGG⟩ : ∃ GG, nextG G E LL u.data.toList = GG := ⟨_, rfl⟩
  simp only [hE, hLL, hGG] at hop hnx ⊢
  have HOP := Lib.hid hop
  have HNX := Lib.hid hnx
  clear h hl hx hI hne hop hnx hE hLL hGG
  go_enter Tryz.func67, Tryz.ntmps67
  go_wp2_with (first
    | (go_at_call 97; refine hlast.mono ?_; rintro e w1 ⟨d, vd, rfl, hr1, hb1⟩)
    | (go_at_call 53; refine (HOP.out _ _ _ hr1).mono ?_; rintro e w2 ⟨rfl, vd2, hr2, hg2, _⟩; have hb2 := hb1.grown hg2 hb1.size (fun q hq => by cases hq; exact hr1.lo))
    | (go_at_call 98; refine (HNX.out _ _ _ hb2 hr2).mono ?_; rintro e w3 ⟨rfl, ha3, hk3, hb3⟩))
  go_ret
  exact ⟨rfl, ha3, (Keeps.below hb2).trans hk3, (hb2.mono hlw).trans hb3⟩
set_option maxRecDepth 100000 in
set_option maxHeartbeats 2000000 in
theorem rclose_any (u : ByteArray) :
    Calls Tryz.prog 70 #[.pointer (some ⟨r, 0, none⟩), .string u] w fun e w' => e = .returned (.int .i64 (closeE x.docs u.data.toList)) ∧ (∃ v' Bs', AV w' r lo v' Bs' (nextG G (closeE x.docs u.data.toList) (without u.data.toList x.docs) u.data.toList)) ∧ Keeps w w' ∧ Below lo w w' := by
  have hne : G ≠ [] := fun e => by rw [e] at hx; cases hx
  have hlw : lo ≤ w.heap.size := Nat.le_trans h.lor (Nat.le_of_lt h.lt)
  have hlast := rlast_any h hne hl x hx (by have := hI.len; omega)
  have hop := fun w1 d vd (hr : RV w1 d w.heap.size vd x.docs) => refClose_any w1 d w.heap.size vd x.docs hr hI.ord u (by have := hI.len; omega)
  have hnx := fun w2 d vd (hb : Below w.heap.size w w2) (hr : RV w2 d w.heap.size vd (without u.data.toList x.docs)) => rnext_any (h.below hb) hl (hr.mono hlw) u (closeE x.docs u.data.toList)
  obtain ⟨E, hE⟩ : ∃ E, closeE x.docs u.data.toList = E := ⟨_, rfl⟩
  obtain ⟨LL, hLL⟩ : ∃ LL, without u.data.toList x.docs = LL := ⟨_, rfl⟩
  obtain ⟨GG, hGG⟩ : ∃ GG, nextG G E LL u.data.toList = GG := ⟨_, rfl⟩
  simp only [hE, hLL, hGG] at hop hnx ⊢
  have HOP := Lib.hid hop
  have HNX := Lib.hid hnx
  clear h hl hx hI hne hop hnx hE hLL hGG
  go_enter Tryz.func70, Tryz.ntmps70
  go_wp2_with (first
    | (go_at_call 97; refine hlast.mono ?_; rintro e w1 ⟨d, vd, rfl, hr1, hb1⟩)
    | (go_at_call 56; refine (HOP.out _ _ _ hr1).mono ?_; rintro e w2 ⟨rfl, vd2, hr2, hg2, _⟩; have hb2 := hb1.grown hg2 hb1.size (fun q hq => by cases hq; exact hr1.lo))
    | (go_at_call 98; refine (HNX.out _ _ _ hb2 hr2).mono ?_; rintro e w3 ⟨rfl, ha3, hk3, hb3⟩))
  go_ret
  exact ⟨rfl, ha3, (Keeps.below hb2).trans hk3, (hb2.mono hlw).trans hb3⟩
set_option maxRecDepth 100000 in
set_option maxHeartbeats 2000000 in
theorem rchange_any (u : ByteArray) (ver : Int) (p : Option Addr) (n c : Nat) (cs : List Chg) (hn : n = cs.length) (hn2 : n ≤ 1000) (hC : ChgsAt w p cs) (hXs : ∀ x ∈ cs, x.text.size ≤ 70000) :
    Calls Tryz.prog 68 #[.pointer (some ⟨r, 0, none⟩), .string u, .int .i64 ver, .slice p n c] w fun e w' => e = .returned (.int .i64 (chgE x.docs u.data.toList ver cs)) ∧ (∃ v' Bs', AV w' r lo v' Bs' (nextG G (chgE x.docs u.data.toList ver cs) (chgL x.docs u.data.toList ver cs) u.data.toList)) ∧ Keeps w w' ∧ Below lo w w' := by
  have hne : G ≠ [] := fun e => by rw [e] at hx; cases hx
  have hlw : lo ≤ w.heap.size := Nat.le_trans h.lor (Nat.le_of_lt h.lt)
  have hlast := rlast_any h hne hl x hx (by have := hI.len; omega)
  have hop := fun w1 d vd (hb : Below w.heap.size w w1) (hr : RV w1 d w.heap.size vd x.docs) => refChange_any w1 d w.heap.size vd x.docs hr hI.ord u ver p n c cs hn hn2 (hC.below hb) (by have := hI.len; omega) (fun d hd => (hI.all d hd).2.2) hXs
  have hnx := fun w2 d vd (hb : Below w.heap.size w w2) (hr : RV w2 d w.heap.size vd (chgL x.docs u.data.toList ver cs)) => rnext_any (h.below hb) hl (hr.mono hlw) u (chgE x.docs u.data.toList ver cs)
  obtain ⟨E, hE⟩ : ∃ E, chgE x.docs u.data.toList ver cs = E := ⟨_, rfl⟩
  obtain ⟨LL, hLL⟩ : ∃ LL, chgL x.docs u.data.toList ver cs = LL := ⟨_, rfl⟩
  obtain ⟨GG, hGG⟩ : ∃ GG, nextG G E LL u.data.toList = GG := ⟨_, rfl⟩
  simp only [hE, hLL, hGG] at hop hnx ⊢
  have HOP := Lib.hid hop
  have HNX := Lib.hid hnx
  clear h hl hx hI hne hop hnx hE hLL hGG hn hC hXs
  go_enter Tryz.func68, Tryz.ntmps68
  go_wp2_with (first
    | (go_at_call 97; refine hlast.mono ?_; rintro e w1 ⟨d, vd, rfl, hr1, hb1⟩)
    | (go_at_call 57; refine (HOP.out _ _ _ hb1 hr1).mono ?_; rintro e w2 ⟨rfl, hr2, hg2⟩; have hb2 := hb1.grown hg2 hb1.size (fun q hq => (hr1.row.lt q hq).1))
    | (go_at_call 98; refine (HNX.out _ _ _ hb2 hr2).mono ?_; rintro e w3 ⟨rfl, ha3, hk3, hb3⟩))
  go_ret
  exact ⟨rfl, ha3, (Keeps.below hb2).trans hk3, (hb2.mono hlw).trans hb3⟩
end
end Go.Proofs.Dc
