/- Hold, Free of a Snapshots. -/
import Derived.Test.YtcenfckjkboabaaGreatDoorS3
import Derived.BigQuiet
import Derived.StillTailTactics
namespace Go.Proofs.Dc
open Go.RowKit Go.Proofs Go.Lib Go.Maps

theorem kept_last {G : List Gen} (h : G ≠ []) : kept G (G.length - 1) = true := by
  have hl : 0 < G.length := List.length_pos_iff.2 h
  unfold kept
  rw [List.getElem?_eq_getElem (by omega)]
  simp
  omega
theorem cnt_eq {K K' : Nat → Bool} {N : Nat} (h : ∀ i, i < N → K i = K' i) : cnt K N = cnt K' N := by
  unfold cnt
  refine List.countP_congr fun i hi => ?_
  rw [h i (by simpa using hi)]
theorem cnt_succ (K : Nat → Bool) (N : Nat) : cnt K (N + 1) = cnt K N + if K N = true then 1 else 0 := by
  unfold cnt
  rw [List.range_succ, List.countP_append, List.countP_singleton]
theorem cnt_less {K : Nat → Bool} {n : Nat} (hn : K n = true) : ∀ {N : Nat}, n < N → cnt (fun i => K i && i != n) N + 1 = cnt K N
  | 0, h => by omega
  | N + 1, h => by
    rw [cnt_succ, cnt_succ]
    by_cases e : n = N
    · subst e
      rw [if_pos hn, cnt_eq (K := fun i => K i && i != n) (K' := K) (fun i hi => by simp; intro _; omega)]
      simp
    · have ih := cnt_less hn (N := N) (by omega)
      have : (K N && N != n) = K N := by simp; intro _; omega
      simp only [this]
      omega
theorem SK.congr {w : World} {s m lo : Nat} {K K' : Nat → Bool} {now : Nat} {G : List Gen} {N : Nat} {B : Nat → Nat} {D : DataW Unit} (h : SK w s m lo K now G N B D) (hK : ∀ i, K i = K' i) : SK w s m lo K' now G N B D := by
  rw [← funext hK]
  exact h
/-- what a call leaves of the blocks that were there -/
structure FsK (w w' : World) (s m : Nat) : Prop where
  os : w'.os = w.os
  tape : w'.tape = w.tape
  output : w'.output = w.output
  size : w.heap.size ≤ w'.heap.size
  block : ∀ k, k < w.heap.size → k ≠ s → k ≠ m → (∀ c f, w.heap[k]? ≠ some (.cells c 103 f)) → w'.heap[k]? = w.heap[k]?
theorem FsK.trans {w w1 w2 : World} {s m : Nat} (h : FsK w w1 s m) (g : FsK w1 w2 s m) : FsK w w2 s m :=
  ⟨g.os.trans h.os, g.tape.trans h.tape, g.output.trans h.output, Nat.le_trans h.size g.size, fun k h1 h2 h3 h4 => by
    have e := h.block k h1 h2 h3 h4
    exact (g.block k (Nat.lt_of_lt_of_le h1 h.size) h2 h3 (fun c f => by rw [e]; exact h4 c f)).trans e⟩
theorem FsK.below {w w' : World} {s m : Nat} (hb : Below w.heap.size w w') : FsK w w' s m := ⟨hb.os, hb.tape, hb.output, hb.size, fun k h _ _ _ => hb.block k h⟩
theorem FsK.s {w w' : World} {s m : Nat} (hg : w.grownBy w' (some s)) : FsK w w' s m := ⟨hg.os, hg.tape, hg.output, hg.size, fun k h h1 _ _ => hg.block k h (fun e => h1 (Option.some.inj e))⟩
theorem FsK.m {w w' : World} {s m : Nat} (hg : w.grownBy w' (some m)) : FsK w w' s m := ⟨hg.os, hg.tape, hg.output, hg.size, fun k h _ h1 _ => hg.block k h (fun e => h1 (Option.some.inj e))⟩
theorem FsK.b {w w' : World} {s m b : Nat} (hg : w.grownBy w' (some b)) {c : Array Value} {f : Nat × Nat} (hb : w.heap[b]? = some (.cells c 103 f)) : FsK w w' s m := ⟨hg.os, hg.tape, hg.output, hg.size, fun k h _ _ h2 => hg.block k h (fun e => h2 c f (Option.some.inj e ▸ hb))⟩
/-- what Hold makes -/
def holdG (G : List Gen) : List Gen := match G[G.length - 1]? with | some g => G.set (G.length - 1) { g with held := g.held + 1 } | none => G
theorem kept_set {G : List Gen} {n x : Nat} {g : Gen} (hg : G[n]? = some g) (i : Nat) : kept (G.set n { g with held := x }) i = if i = n then decide (n + 1 = G.length ∨ 0 < x) else kept G i := by
  unfold kept
  have hl := (List.getElem?_eq_some_iff.1 hg).1
  by_cases e : i = n
  · subst e
    rw [List.getElem?_set_self hl, if_pos rfl]
    simp
  · rw [List.getElem?_set_ne (fun e2 => e e2.symm), if_neg e]
    simp
set_option maxRecDepth 100000 in
set_option maxHeartbeats 2000000 in
theorem hold_any {w : World} {s m lo : Nat} {G : List Gen} (h : SV w s m lo G) (hG : G.length ≤ 1000) (hh : ∀ g ∈ G, g.held ≤ 1000000) :
    Calls Tryz.prog 22 #[.pointer (some ⟨s, 0, none⟩)] w fun e w' => e = .returned (.int .i64 ((G.length - 1 : Nat) : Int)) ∧ SV w' s m lo (holdG G) ∧ FsK w w' s m ∧ Below lo w w' := by
  obtain ⟨hne, B, D, h⟩ := h
  have hk := kept_last hne
  have hl : 0 < G.length := List.length_pos_iff.2 hne
  obtain ⟨n, hn⟩ : ∃ n, G.length - 1 = n := ⟨_, rfl⟩
  rw [hn] at h hk ⊢
  obtain ⟨g, hg⟩ : ∃ g, G[n]? = some g := ⟨_, List.getElem?_eq_getElem (by omega)⟩
  obtain ⟨hz, hlo, ⟨gn⟩⟩ := h.el n hk
  have hgg : gn.g = g := Option.some.inj (gn.at_.symm.trans hg)
  have hheld := hh g (List.mem_of_getElem? hg)
  have hd : SK w.drew s m lo (kept G) n G (cnt (kept G) G.length) B D := h.below ((Below.refl _ _).drew)
  have hq := sis_any h
  have hlook := hd.look (n : Int) (wfI_of (by omega) (by omega))
  have hc : (0 : Int) ≤ (n : Int) ∧ kept G ((n : Int)).toNat = true := ⟨by omega, by simpa using hk⟩
  rw [if_pos hc, Int.toNat_natCast] at hlook
  obtain ⟨c0, c1⟩ := h.cells
  have k2 := gn.cells.2.2
  rw [hgg] at k2
  have q1 : IntKind.i64.wrap ((g.held : Int) + 1) = (g.held : Int) + 1 := IntWalk.i64_in _ (by omega)
  have hst := hd.setHeld hk hg (g.held + 1)
  simp only [Int.natCast_add, Int.natCast_one] at hst
  have hgd := gn.hd
  have hfr : w.frozen? ⟨B n, 2, none⟩ = false := by simp [World.frozen?, hgd]
  have hd2 : w.drew.cell? ⟨B n, 2, none⟩ = some (.int .i64 (g.held : Int)) := k2
  have hfr2 : w.drew.frozen? ⟨B n, 2, none⟩ = false := hfr
  have he1 := hst.1.cells.2
  have HST := Lib.hid hst
  have HGD : Hid (∃ c f, w.heap[B n]? = some (.cells c 103 f)) := Lib.hid ⟨_, _, hgd⟩
  have HSZ : Hid (lo ≤ w.heap.size) := Lib.hid (by have := h.lt; have := h.slo; omega)
  have HN := Lib.hid hn
  have HG := Lib.hid hg
  have HNE := Lib.hid hne
  have HHH := Lib.hid hh
  clear h hd hz gn hgg hgd hst hc hn hg hne hh hk hl
  go_enter Tryz.func22, Tryz.ntmps22
  go_upto_region 3 with (first | (go_at_call 66; refine hq.mono ?_; rintro e w1 ⟨rfl, hw⟩; subst w1))
  go_still_tail 15, (by kernel_rfl)
  change wpList _ _ _ _ _ w.drew
  clear c0 c1 k2 hfr
  have HBD : Hid (w.grownBy w.drew (some (B n))) := Lib.hid (gb_below (Below.refl _ _).drew)
  generalize w.drew = wd at *
  go_wp2_with fail
  go_ret
  have hn := HN.out
  have hg := HG.out
  have hgl := (List.getElem?_eq_some_iff.1 hg).1
  have hhold : holdG G = G.set n { g with held := g.held + 1 } := by unfold holdG; rw [hn, hg]
  obtain ⟨S, hS⟩ := HST.out
  obtain ⟨cc, ff, hcf⟩ := HGD.out
  refine ⟨rfl, ?_, FsK.b (HBD.out.trans hS) hcf, below_gb hlo HSZ.out (HBD.out.trans hS)⟩
  rw [hhold]
  refine ⟨fun e => by have := congrArg List.length e; simp at this; exact HNE.out this, B, D, ?_⟩
  have hlen : (G.set n { g with held := g.held + 1 }).length = G.length := List.length_set ..
  have hke : ∀ i, kept G i = kept (G.set n { g with held := g.held + 1 }) i := fun i => by
    rw [kept_set hg]
    by_cases e : i = n
    · subst e
      rw [if_pos rfl]
      have := kept_last HNE.out
      rw [hn] at this
      rw [this]
      simp
    · rw [if_neg e]
  rw [hlen, hn, ← cnt_eq (K := kept G) (fun i _ => hke i)]
  exact S.congr hke
end Go.Proofs.Dc
