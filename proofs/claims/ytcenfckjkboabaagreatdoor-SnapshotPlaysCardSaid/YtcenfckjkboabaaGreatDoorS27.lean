/- SnapshotPlays' walk. -/
import Derived.Test.YtcenfckjkboabaaGreatDoorS26
import Derived.Test.YtcenfckjkboabaaGreatDoorS19
namespace Go.Proofs.Sn
open Go.RowKit Go.Proofs Go.Lib Go.Maps Go.Proofs.Dc

theorem free_parts (G : List Gen) (i : Int) : (freeG G i).length = G.length ∧ (freeG G i).map (·.docs) = G.map (·.docs) ∧ (freeG G i).map (·.uri) = G.map (·.uri) ∧ ∀ N, (∀ g ∈ G, g.held ≤ N) → ∀ g ∈ freeG G i, g.held ≤ N := by
  unfold freeG
  split
  · cases hg : G[i.toNat]? with
    | none => exact ⟨rfl, rfl, rfl, fun _ h => h⟩
    | some g =>
      simp only
      split
      · obtain ⟨hl, he⟩ := List.getElem?_eq_some_iff.1 hg
        refine ⟨List.length_set .., ?_, ?_, fun N h x hx => ?_⟩
        · rw [List.map_set]
          have e : (G.map (·.docs))[i.toNat]? = some g.docs := by simp [hg]
          obtain ⟨hl2, he2⟩ := List.getElem?_eq_some_iff.1 e
          rw [← he2]
          exact List.set_getElem_self hl2
        · rw [List.map_set]
          have e : (G.map (·.uri))[i.toNat]? = some g.uri := by simp [hg]
          obtain ⟨hl2, he2⟩ := List.getElem?_eq_some_iff.1 e
          rw [← he2]
          exact List.set_getElem_self hl2
        · rcases List.mem_or_eq_of_mem_set hx with hx | rfl
          · exact h x hx
          · have := h g (List.mem_of_getElem? hg)
            simp only
            omega
      · exact ⟨rfl, rfl, rfl, fun _ h => h⟩
  · exact ⟨rfl, rfl, rfl, fun _ h => h⟩
theorem gi_free {G : List Gen} {N : Nat} (h : GI G N) (i : Int) : GI (freeG G i) N := by
  obtain ⟨h1, h2, h3, h4⟩ := free_parts G i
  refine ⟨fun e => ?_, fun g hg => ?_, by rw [h1]; exact h.len, h4 N h.held⟩
  · rw [e] at h1
    exact h.ne (List.length_eq_zero_iff.1 h1.symm)
  · have : g.docs ∈ (freeG G i).map (·.docs) := List.mem_map_of_mem hg
    rw [h2] at this
    obtain ⟨y, hy, e⟩ := List.mem_map.1 this
    rw [← e]
    exact h.inv y hy
theorem ci_parts {G G' : List Gen} (h : CI G) (h1 : G'.map (·.docs) = G.map (·.docs)) (h2 : G'.map (·.uri) = G.map (·.uri)) : CI G' := fun n g hg u hu => by
  have e1 : (G.map (·.docs))[n]? = some g.docs := by rw [← h1]; simp [hg]
  rw [List.getElem?_map] at e1
  obtain ⟨x, hx, e2⟩ := Option.map_eq_some_iff.1 e1
  have e3 : cameOf G' n u = cameOf G n u := by
    unfold cameOf
    rw [List.map_take, List.map_take, h2]
  rw [e3]
  exact h n x hx u (by rw [e2]; exact hu)
theorem ci_do {G : List Gen} {N : Nat} (h : CI G) (hG : GI G N) (x : Act) : CI (doG G x) := by
  unfold doG
  simp only
  split
  · obtain ⟨P, y, rfl⟩ := split_last hG.ne
    rw [hold_snoc]
    exact h.hold rfl rfl
  · split
    · obtain ⟨_, h2, h3, _⟩ := free_parts G x.gn
      exact ci_parts h h2 h3
    · exact ci_act h hG x
theorem gi_do {G : List Gen} {N : Nat} (hG : GI G N) (x : Act) : GI (doG G x) (N + 1) := by
  unfold doG
  simp only
  split
  · exact hG.hold
  · split
    · exact (gi_free hG _).mono (by omega)
    · exact gi_act hG x
set_option maxRecDepth 100000 in
set_option maxHeartbeats 8000000 in
theorem splays_walk (w : World) (hT : Tabs w) (p : Option Addr) (n c : Nat) (hn2 : n ≤ maxLen) (hl : ∃ l : List Act, n = l.length ∧ ActsAt w p l) :
    Calls Tryz.prog 6 #[.slice p n c] w fun e w' => e = .returned (.bool true) ∧ Below w.heap.size w w' := by
  obtain ⟨l, hn, hI⟩ := hl
  have hw := works28_any
  have hlg := large_any w p n c l hn hn2 hI
  cases hB : largeB l with
  | true =>
    rw [hB] at hlg
    clear hn hI hB
    go_enter Tryz.func6, Tryz.ntmps6
    go_wp2_with (first
      | (go_at_call 18; refine hlg.mono ?_; rintro e w1 ⟨rfl, hww⟩; subst w1)
      | (go_at_call 19; refine (hw _ hT).mono ?_; rintro e w2 ⟨rfl, hb2⟩))
    go_ret
    exact ⟨rfl, hb2⟩
  | false =>
  rw [hB] at hlg
  have hsm := small_of hB
  have HN := Lib.hid hn
  have HI := Lib.hid hI
  have HS := Lib.hid hsm
  have hn30 : n ≤ 30 := by have := hsm.2; omega
  have hlo := hT.lo
  have hnew := snew_any w
  clear hn hI hB hsm
  go_enter Tryz.func6, Tryz.ntmps6
  go_wp2_with (first
    | (go_at_call 18; refine hlg.mono ?_; rintro e w1 ⟨rfl, hww⟩; subst w1)
    | (go_at_call 20; refine hnew.mono ?_; rintro e w1 ⟨s, m, rfl, S0, b1⟩)
    | (go_at_call 26; refine (rmade_any w1).mono ?_; rintro e w2 ⟨r, v0, Bs0, rfl, A0, b2⟩))
  have A00 : AV w2 r w.heap.size v0 Bs0 G0 := ⟨A0.hd, Nat.le_trans b1.size A0.lor, A0.row.mono b1.size, A0.len, fun n g b h1 h2 => by
    obtain ⟨y⟩ := A0.el n g b h1 h2
    exact ⟨⟨y.d, y.v, y.hd, y.rv.mono b1.size, Nat.le_trans b1.size y.lob⟩⟩, A0.inj⟩
  have P0 : PV w2 s m r w.heap.size G0 := ⟨S0.below b2, v0, Bs0, A00⟩
  have B0 := b1.trans (b2.mono b1.size)
  clear hlg hnew A0 A00 S0 b1 b2
  go_loopw [5] (fun iv wr => ∃ (k : Nat) (G : List Gen), iv = .int .i64 k ∧ k ≤ n ∧ GI G (k + 1) ∧ CI G ∧ PV wr s m r w.heap.size G ∧ Below w.heap.size w wr) (fun iv _ => n - (RowKit.intOf iv).toNat)
  case atStart => exact ⟨0, G0, rfl, Nat.zero_le _, ⟨by decide, fun g hg => by rw [List.mem_singleton.1 hg]; exact Inv.nil, by decide, fun g hg => by rw [List.mem_singleton.1 hg]; exact Nat.zero_le _⟩, ci_G0, P0, B0⟩
  case round =>
    obtain ⟨k, G, rfl, hk, hGI, hCI, P, hB⟩ := hrel
    clear P0 B0
    by_cases hkn : (k : Int) < (n : Int)
    · obtain ⟨x, hx⟩ : ∃ x, l[k]? = some x := ⟨_, List.getElem?_eq_getElem (by have := HN.out; omega)⟩
      have hok := HS.out.1 x (List.mem_of_getElem? hx)
      obtain ⟨a, rfl, hA0⟩ := HI.out k x hx
      have HC : Hid (∀ w', Below w.heap.size w w' → ActAt w' (a.add (k * 6)) x) := Lib.hid fun w' hb => hA0.below hb
      have hBd : Below w.heap.size w wr.drew := hB.drew
      have Pd : PV wr.drew s m r w.heap.size G := P.below ((Below.refl _ _).drew)
      have hdo := rdo_any (hT.below hBd) (by omega) Pd hGI (by omega) x hok hA0.len (fun w' hb2 => (HC.out w' (hBd.trans hb2)).chgs) hA0.gwf
      have hal := fun w2 (P2 : PV w2 s m r w.heap.size (doG G x)) => ralike_any P2 (gi_do hGI x) (by omega) (ci_do hCI hGI x) x.uri (by have := hok.1; omega) x.gn hA0.gwf
      have HGI := Lib.hid (gi_do hGI x)
      have HCI := Lib.hid (ci_do hCI hGI x)
      obtain ⟨GX, hGX⟩ : ∃ GX, doG G x = GX := ⟨_, rfl⟩
      rw [hGX] at hdo HGI HCI
      simp only [hGX] at hal
      have HDO := Lib.hid hdo
      have HAL := Lib.hid hal
      obtain ⟨c0, c1, c2, c3, c4, c5⟩ := act_cells (HC.out _ hBd)
      clear hdo hal hGX hGI hCI hA0 hx hok P Pd
      unfold actVal at HDO
      go_wp2_with fail
      go_region_held3 (fun v => v.cell? (a.add (k * 6)) = some (.int .i64 x.todo) ∧ v.cell? ⟨(a.add (k * 6)).block, (a.add (k * 6)).off + 1, none⟩ = some (.int .i64 x.gn) ∧ v.cell? ⟨(a.add (k * 6)).block, (a.add (k * 6)).off + 2, none⟩ = some (.string x.uri) ∧ v.cell? ⟨(a.add (k * 6)).block, (a.add (k * 6)).off + 3, none⟩ = some (.string x.text) ∧ v.cell? ⟨(a.add (k * 6)).block, (a.add (k * 6)).off + 4, none⟩ = some (.int .i64 x.ver) ∧ v.cell? ⟨(a.add (k * 6)).block, (a.add (k * 6)).off + 5, none⟩ = some (.slice x.lp x.ln x.lc)) (first | exact ⟨c0, c1, c2, c3, c4, c5⟩ | exact ⟨d0, d1, d2, d3, d4, d5⟩ | exact ⟨f0, f1, f2, f3, f4, f5⟩) (first
        | (go_at_call 27; refine HDO.out.mono ?_; rintro e w4 ⟨rfl, P4, b4⟩; have B4 := hBd.trans b4; obtain ⟨d0, d1, d2, d3, d4, d5⟩ := act_cells (HC.out _ B4))
        | (go_at_call 28; refine (HAL.out _ P4).mono ?_; rintro e w5 ⟨rfl, b5⟩; have P5 := P4.below b5; have B5 := B4.trans (b5.mono B4.size); obtain ⟨f0, f1, f2, f3, f4, f5⟩ := act_cells (HC.out _ B5)))
      go_wp2_with fail
      go_roundw
      case rel => exact ⟨k + 1, GX, by go_num, by omega, HGI.out, HCI.out, P5, B5⟩
      case measure => simp [RowKit.intOf]; omega
    · go_wp2_with (first
        | (go_at_call 19; refine (hw _ (hT.below hB)).mono ?_; rintro e w2 ⟨rfl, hb2⟩))
      go_ret
      exact ⟨rfl, hB.trans (hb2.mono hB.size)⟩
end Go.Proofs.Sn
