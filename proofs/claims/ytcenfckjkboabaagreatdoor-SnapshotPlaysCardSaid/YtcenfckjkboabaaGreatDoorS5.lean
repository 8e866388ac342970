/- Free of a Snapshots. -/
import Derived.Test.YtcenfckjkboabaaGreatDoorS4
namespace Go.Proofs.Dc
open Go.RowKit Go.Proofs Go.Lib Go.Maps

/-- what Free answers, and makes -/
def freeE (G : List Gen) (i : Int) : Int := if 0 ≤ i then match G[i.toNat]? with | some g => if 0 < g.held then 0 else 5 | none => 5 else 5
def freeG (G : List Gen) (i : Int) : List Gen := if 0 ≤ i then match G[i.toNat]? with | some g => if 0 < g.held then G.set i.toNat { g with held := g.held - 1 } else G | none => G else G
theorem free_no {G : List Gen} {i : Int} (h : ¬ (0 ≤ i ∧ kept G i.toNat = true)) : freeE G i = 5 ∧ freeG G i = G := by
  unfold freeE freeG
  by_cases h0 : 0 ≤ i
  · rw [if_pos h0, if_pos h0]
    cases hg : G[i.toNat]? with
    | none => exact ⟨rfl, rfl⟩
    | some g =>
      have : ¬ 0 < g.held := fun hp => h ⟨h0, by unfold kept; rw [hg]; simp [hp]⟩
      simp only
      rw [if_neg this, if_neg this]
      exact ⟨rfl, rfl⟩
  · rw [if_neg h0, if_neg h0]; exact ⟨rfl, rfl⟩
set_option maxRecDepth 100000 in
set_option maxHeartbeats 4000000 in
theorem free_any {w : World} {s m lo : Nat} {G : List Gen} (h : SV w s m lo G) (hG : G.length ≤ 1000) (hh : ∀ g ∈ G, g.held ≤ 1000000) (i : Int) (hi : wfI i) :
    Calls Tryz.prog 31 #[.pointer (some ⟨s, 0, none⟩), .int .i64 i] w fun e w' => e = .returned (.int .i64 (freeE G i)) ∧ SV w' s m lo (freeG G i) ∧ FsK w w' s m ∧ Below lo w w' := by
  have HH := Lib.hid h
  obtain ⟨hne, B, D, h⟩ := h
  have hl : 0 < G.length := List.length_pos_iff.2 hne
  have hq := sis_any h
  have hlook := h.look i hi
  obtain ⟨c0, c1⟩ := h.cells
  by_cases hc : 0 ≤ i ∧ kept G i.toNat = true
  · rw [if_pos hc] at hlook
    obtain ⟨hi0, hk⟩ := hc
    obtain ⟨n, rfl⟩ : ∃ n : Nat, i = n := ⟨i.toNat, by omega⟩
    simp only [Int.toNat_natCast] at hk hlook
    obtain ⟨hz, hlo, ⟨gn⟩⟩ := h.el n hk
    obtain ⟨g, hg⟩ : ∃ g, G[n]? = some g := ⟨_, gn.at_⟩
    have hgg : gn.g = g := Option.some.inj (gn.at_.symm.trans hg)
    have hheld := hh g (List.mem_of_getElem? hg)
    have hgl := (List.getElem?_eq_some_iff.1 hg).1
    have k2 := gn.cells.2.2
    rw [hgg] at k2
    have hE : freeE G (n : Int) = if 0 < g.held then 0 else 5 := by unfold freeE; rw [if_pos (by omega), Int.toNat_natCast, hg]
    have hF : freeG G (n : Int) = if 0 < g.held then G.set n { g with held := g.held - 1 } else G := by unfold freeG; rw [if_pos (by omega), Int.toNat_natCast, hg]
    rw [hE, hF]
    have hfr : w.frozen? ⟨B n, 2, none⟩ = false := by have := gn.hd; simp [World.frozen?, this]
    obtain ⟨N1, hN1⟩ : ∃ N1, G.length - 1 = N1 := ⟨_, rfl⟩
    by_cases hp : 0 < g.held
    · rw [if_pos hp, if_pos hp]
      obtain ⟨x, hx⟩ : ∃ x, g.held = x + 1 := ⟨g.held - 1, by omega⟩
      rw [hx] at k2 ⊢
      rw [hx] at hheld
      simp only [Nat.add_sub_cancel]
      have q1 : IntKind.i64.wrap (((x + 1 : Nat) : Int) - 1) = (x : Int) := by
        rw [show ((x + 1 : Nat) : Int) - 1 = (x : Int) by omega]
        exact IntWalk.i64_in _ (by omega)
      have hst := h.setHeld hk hg x
      have hz1 : (((x + 1 : Nat) : Int) == 0) = false := beq_eq_false_iff_ne.2 (by omega)
      rw [hN1] at hst c1
      have he1 := hst.1.cells
      have he2 : (w.setCell ⟨B n, 2, none⟩ (.int .i64 (x : Int))).cell? ⟨B n, 2, none⟩ = some (.int .i64 (x : Int)) := by
        have := set_row (j := 2) (.int .i64 (x : Int)) gn.hd
        simp [World.cell?, this]
      have hbx : ∃ c f, w.heap[B n]? = some (.cells c 103 f) := ⟨_, _, gn.hd⟩
      have hsz : lo ≤ w.heap.size := by have := h.lt; have := h.slo; omega
      have hke := fun i => kept_set (x := x) hg i
      have hgk : kept G n = true := hk
      obtain ⟨W1, hW1⟩ : ∃ W1, w.setCell ⟨B n, 2, none⟩ (.int .i64 (x : Int)) = W1 := ⟨_, rfl⟩
      rw [hW1] at hst he1 he2
      obtain ⟨e0, e1⟩ := he1
      obtain ⟨hS1, hS2⟩ := hst
      have HS1 := Lib.hid hS1
      have HS2 := Lib.hid hS2
      have HBX := Lib.hid hbx
      have HSZ := Lib.hid hsz
      have HKE := Lib.hid hke
      have HK := Lib.hid hgk
      have HN1 := Lib.hid hN1
      have HNE := Lib.hid hne
      have HG := Lib.hid hG
      have HW1 := Lib.hid hW1
      have HLO := Lib.hid hlo
      have HGL := Lib.hid hgl
      have hne2 : G.set n { g with held := x } ≠ [] := fun e => by have := congrArg List.length e; simp at this; exact hne this
      have HNE2 := Lib.hid hne2
      have hlen : (G.set n { g with held := x }).length = G.length := List.length_set ..
      have HLEN := Lib.hid hlen
      by_cases h0 : x = 0
      · have hx0 : ((x : Int) == 0) = true := by rw [h0]; rfl
        have HX0 := Lib.hid h0
        clear h0
        by_cases hnow : (n : Int) = (N1 : Int)
        · obtain rfl : n = N1 := by omega
          clear hnow
          clear h hz gn hgg hE hF hN1 hne hG hh hg hk hgl hbx hsz hke hgk hS1 hS2 hne2 hlen hlo HH hl
          go_enter Tryz.func31, Tryz.ntmps31
          go_wp2_with (first | (go_at_call 66; refine hq.mono ?_; rintro e w1 ⟨rfl, hw⟩; subst w1))
          go_ret
          obtain ⟨cc, ff, hcf⟩ := HBX.out
          refine ⟨rfl, ⟨HNE2.out, B, D, ?_⟩, FsK.b HS2.out hcf, below_gb HLO.out HSZ.out HS2.out⟩
          have hke : ∀ i, kept G i = kept (G.set n { g with held := x }) i := fun i => by
            rw [HKE.out]
            by_cases e : i = n
            · subst e
              rw [if_pos rfl, HK.out]
              have := HN1.out
              have := HGL.out
              symm
              rw [decide_eq_true_eq]
              left
              omega
            · rw [if_neg e]
          rw [HLEN.out, HN1.out, ← cnt_eq (K := kept G) (fun i _ => hke i)]
          exact HS1.out.congr hke
        · have hnw : ((n : Int) == (N1 : Int)) = false := beq_eq_false_iff_ne.2 hnow
          obtain ⟨W2, D2, hdel, hS3, hS4⟩ := hS1.del hk hi
          have HS3 := Lib.hid hS3
          have HS4 := Lib.hid hS4
          have hml := hS1.mlo
          have hz2 := hS2.size
          have HML := Lib.hid hml
          have HZ2 := Lib.hid hz2
          clear h hz gn hgg hE hF hN1 hne hG hh hg hk hgl hbx hsz hke hgk hS1 hS2 hne2 hlen hlo HH hl hS3 hS4 hml hz2
          go_enter Tryz.func31, Tryz.ntmps31
          go_wp2_with (first | (go_at_call 66; refine hq.mono ?_; rintro e w1 ⟨rfl, hw⟩; subst w1))
          go_ret
          obtain ⟨cc, ff, hcf⟩ := HBX.out
          refine ⟨rfl, ⟨HNE2.out, B, D2, ?_⟩, (FsK.b HS2.out hcf).trans (FsK.m HS4.out), (below_gb HLO.out HSZ.out HS2.out).trans (below_gb HML.out (Nat.le_trans HSZ.out HZ2.out) HS4.out)⟩
          have hke : ∀ i, (kept G i && i != n) = kept (G.set n { g with held := x }) i := fun i => by
            rw [HKE.out]
            by_cases e : i = n
            · subst e
              rw [if_pos rfl, HK.out]
              have := HN1.out
              have := HGL.out
              have := HX0.out
              simp
              omega
            · rw [if_neg e]
              simp [e]
          have hcn := cnt_less HK.out HGL.out
          rw [HLEN.out, HN1.out, ← cnt_eq (K := fun i => kept G i && i != n) (fun i _ => hke i), show cnt (fun i => kept G i && i != n) G.length = cnt (kept G) G.length - 1 by omega]
          exact HS3.out.congr hke
      · have hx0 : ((x : Int) == 0) = false := beq_eq_false_iff_ne.2 (by omega)
        clear h hz gn hgg hE hF hN1 hne hG hh hg hk hgl hbx hsz hke hgk hS1 hS2 hne2 hlen hlo HH hl
        go_enter Tryz.func31, Tryz.ntmps31
        go_wp2_with (first | (go_at_call 66; refine hq.mono ?_; rintro e w1 ⟨rfl, hw⟩; subst w1))
        go_ret
        obtain ⟨cc, ff, hcf⟩ := HBX.out
        refine ⟨rfl, ⟨HNE2.out, B, D, ?_⟩, FsK.b HS2.out hcf, below_gb HLO.out HSZ.out HS2.out⟩
        have hke : ∀ i, kept G i = kept (G.set n { g with held := x }) i := fun i => by
          rw [HKE.out]
          by_cases e : i = n
          · subst e
            rw [if_pos rfl, HK.out]
            symm
            rw [decide_eq_true_eq]
            right
            omega
          · rw [if_neg e]
        rw [HLEN.out, HN1.out, ← cnt_eq (K := kept G) (fun i _ => hke i)]
        exact HS1.out.congr hke
    · rw [if_neg hp, if_neg hp]
      have h0 : g.held = 0 := by omega
      rw [h0] at k2
      clear h hz gn hgg hE hF hN1 hne hG hh hg hk hgl
      go_enter Tryz.func31, Tryz.ntmps31
      go_wp2_with (first | (go_at_call 66; refine hq.mono ?_; rintro e w1 ⟨rfl, hw⟩; subst w1))
      go_ret
      exact ⟨rfl, HH.out, FsK.below (Below.refl _ _), Below.refl _ _⟩
  · rw [if_neg hc] at hlook
    obtain ⟨hE, hF⟩ := free_no hc
    rw [hE, hF]
    clear h hc hE hF
    go_enter Tryz.func31, Tryz.ntmps31
    go_wp2_with (first | (go_at_call 66; refine hq.mono ?_; rintro e w1 ⟨rfl, hw⟩; subst w1))
    go_ret
    exact ⟨rfl, HH.out, FsK.below (Below.refl _ _), Below.refl _ _⟩
end Go.Proofs.Dc
