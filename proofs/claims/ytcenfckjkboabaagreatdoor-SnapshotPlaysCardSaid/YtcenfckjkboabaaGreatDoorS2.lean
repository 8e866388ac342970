/- Now, Kept, Of, Came of a Snapshots. -/
import Derived.Test.YtcenfckjkboabaaGreatDoorS1
namespace Go.Proofs.Dc
open Go.RowKit Go.Proofs Go.Lib Go.Maps

set_option maxRecDepth 100000 in
theorem now_any {w : World} {s m lo : Nat} {K : Nat → Bool} {now : Nat} {G : List Gen} {N : Nat} {B : Nat → Nat} {D : DataW Unit} (h : SK w s m lo K now G N B D) : Calls Tryz.prog 24 #[.pointer (some ⟨s, 0, none⟩)] w fun e w' => e = .returned (.int .i64 (now : Int)) ∧ w = w' := by
  have hi := sis_any h
  obtain ⟨c0, c1⟩ := h.cells
  clear h
  go_enter Tryz.func24, Tryz.ntmps24
  go_wp2_with (first | (go_at_call 66; refine hi.mono ?_; rintro e w1 ⟨rfl, hw⟩; subst w1))
  go_ret
  exact ⟨rfl, rfl⟩
set_option maxRecDepth 100000 in
theorem kept_any {w : World} {s m lo : Nat} {K : Nat → Bool} {now : Nat} {G : List Gen} {N : Nat} {B : Nat → Nat} {D : DataW Unit} (h : SK w s m lo K now G N B D) : Calls Tryz.prog 29 #[.pointer (some ⟨s, 0, none⟩)] w fun e w' => e = .returned (.int .i64 (N : Int)) ∧ w = w' := by
  have hi := sis_any h
  have hl := h.len
  obtain ⟨c0, c1⟩ := h.cells
  clear h
  go_enter Tryz.func29, Tryz.ntmps29
  go_wp2_with (first | (go_at_call 66; refine hi.mono ?_; rintro e w1 ⟨rfl, hw⟩; subst w1))
  go_ret
  exact ⟨rfl, rfl⟩
theorem GenAt.cells {w : World} {G : List Gen} {n b m : Nat} (h : GenAt w G n b m) : w.cell? ⟨b, 0, none⟩ = some (.pointer (some ⟨h.d, 0, none⟩)) ∧ w.cell? ⟨b, 1, none⟩ = some (.map (some h.C)) ∧ w.cell? ⟨b, 2, none⟩ = some (.int .i64 (h.g.held : Int)) := by
  have := h.hd
  refine ⟨?_, ?_, ?_⟩ <;> simp [World.cell?, this]
/-- what a generation tells -/
def ofV (K : Nat → Bool) (G : List Gen) (i : Int) : Option (List Doc) := if 0 ≤ i ∧ K i.toNat = true then (G[i.toNat]?).map (·.docs) else none
set_option maxRecDepth 100000 in
set_option maxHeartbeats 1000000 in
theorem of_any {w : World} {s m lo : Nat} {K : Nat → Bool} {now : Nat} {G : List Gen} {N : Nat} {B : Nat → Nat} {D : DataW Unit} (h : SK w s m lo K now G N B D) (hO : ∀ g ∈ G, Inv g.docs) (i : Int) (hi : wfI i) :
    Calls Tryz.prog 23 #[.pointer (some ⟨s, 0, none⟩), .int .i64 i] w fun e w' => Below w.heap.size w w' ∧
      ((ofV K G i = none ∧ e = .returned (.tuple #[.slice none 0 0, .bool false])) ∨ ∃ L v, ofV K G i = some L ∧ e = .returned (.tuple #[v, .bool true]) ∧ w'.ownsRow w.heap.size 53 3 v L.length (docCells L)) := by
  have hq := sis_any h
  have hl := h.look i hi
  obtain ⟨c0, c1⟩ := h.cells
  by_cases hc : 0 ≤ i ∧ K i.toNat = true
  · rw [if_pos hc] at hl
    obtain ⟨_, _, ⟨g⟩⟩ := h.el i.toNat hc.2
    obtain ⟨k0, k1, k2⟩ := g.cells
    have hof : ofV K G i = some g.g.docs := by unfold ofV; rw [if_pos hc, g.at_]; rfl
    have hI := hO g.g (List.mem_of_getElem? g.at_)
    have hall := all_any w g.d g.M g.g.docs g.dv hI.ord (by have := hI.len; omega)
    rw [hof]
    have hgd : ∃ d, g.d = d := ⟨_, rfl⟩
    obtain ⟨d, hd⟩ := hgd
    rw [hd] at k0 hall
    obtain ⟨L, hL⟩ : ∃ L, g.g.docs = L := ⟨_, rfl⟩
    rw [hL] at hall ⊢
    clear h hc k1 k2 hof hI hd hL
    generalize B i.toNat = b at *
    go_enter Tryz.func23, Tryz.ntmps23
    go_wp2_with (first
      | (go_at_call 66; refine hq.mono ?_; rintro e w1 ⟨rfl, hw⟩; subst w1)
      | (go_at_call 59; refine hall.mono ?_; rintro e w2 ⟨v, rfl, hrow, hb⟩))
    exact bodyPost_ret (v := .tuple #[v, .bool true]) (by simp [results, Tryz.results23, go_sem]) rfl ⟨hb, .inr ⟨L, v, rfl, rfl, hrow⟩⟩
  · rw [if_neg hc] at hl
    have hof : ofV K G i = none := by unfold ofV; rw [if_neg hc]
    rw [hof]
    clear h hc hof
    go_enter Tryz.func23, Tryz.ntmps23
    go_wp2_with (first
      | (go_at_call 66; refine hq.mono ?_; rintro e w1 ⟨rfl, hw⟩; subst w1))
    exact bodyPost_ret (v := .tuple #[.slice none 0 0, .bool false]) (by simp [results, Tryz.results23, go_sem]) rfl ⟨Below.refl _ _, .inl ⟨by trivial, rfl⟩⟩
/-- where a document came there -/
def cameV (K : Nat → Bool) (G : List Gen) (i : Int) (u : List UInt8) : Option Nat := match ofV K G i with
  | some L => if (getD? L u).isSome = true then some (cameOf G i.toNat u) else none
  | none => none
theorem CameAt.look {w : World} {C : Nat} {L : List Doc} {f : List UInt8 → Nat} (h : CameAt w C L f) (u : ByteArray) (hu : u.size ≤ maxLen) :
    (Instr.lookup 101 (.map (some C)) (.string u) true).run Tryz.prog w = .ok (.tuple #[.int .i64 (if (getD? L u.data.toList).isSome = true then (f u.data.toList : Int) else 0), .bool (getD? L u.data.toList).isSome]) w := by
  obtain ⟨D, h1, h2, h3, h4⟩ := h
  obtain ⟨v, ps, hrun, hv⟩ := h1.look_ok law9 Tryz.underlying101 (z := .int .i64 0) (by kernel_rfl) (zd := .lit (.int .i64 0)) (zp := []) rfl (Go.WideMaps.keyOf_string_mk Tryz.underlying9 hu)
  rw [h3] at hrun
  rw [hrun]
  cases hg : (getD? L u.data.toList).isSome with
  | true =>
    rw [h4 _ hg] at hv
    rw [intEl_int hv]
    rfl
  | false =>
    rw [atKey_of_not_has (by rw [h3, hg])] at hv
    rw [intEl_int hv]
    rfl
set_option maxRecDepth 100000 in
set_option maxHeartbeats 1000000 in
theorem came_any {w : World} {s m lo : Nat} {K : Nat → Bool} {now : Nat} {G : List Gen} {N : Nat} {B : Nat → Nat} {D : DataW Unit} (h : SK w s m lo K now G N B D) (i : Int) (hi : wfI i) (u : ByteArray) (hu : u.size ≤ maxLen) :
    Calls Tryz.prog 25 #[.pointer (some ⟨s, 0, none⟩), .int .i64 i, .string u] w fun e w' => w = w' ∧ e = .returned (.tuple #[.int .i64 (((cameV K G i u.data.toList).getD 0 : Nat) : Int), .bool (cameV K G i u.data.toList).isSome]) := by
  have hq := sis_any h
  have hl := h.look i hi
  obtain ⟨c0, c1⟩ := h.cells
  by_cases hc : 0 ≤ i ∧ K i.toNat = true
  · rw [if_pos hc] at hl
    obtain ⟨_, _, ⟨g⟩⟩ := h.el i.toNat hc.2
    obtain ⟨k0, k1, k2⟩ := g.cells
    have hof : ofV K G i = some g.g.docs := by unfold ofV; rw [if_pos hc, g.at_]; rfl
    have hcl := g.cm.look u hu
    obtain ⟨ok, hok⟩ : ∃ o, (getD? g.g.docs u.data.toList).isSome = o := ⟨_, rfl⟩
    rw [hok] at hcl
    obtain ⟨c, hcc⟩ : ∃ c : Nat, (if ok = true then cameOf G i.toNat u.data.toList else 0) = c := ⟨_, rfl⟩
    have hci : (if ok = true then ((cameOf G i.toNat u.data.toList : Nat) : Int) else 0) = (c : Int) := by rw [← hcc]; split <;> rfl
    rw [hci] at hcl
    have hres : (((cameV K G i u.data.toList).getD 0 : Nat) : Int) = (c : Int) ∧ (cameV K G i u.data.toList).isSome = ok := by
      unfold cameV
      rw [hof]
      simp only [hok]
      rw [← hcc]
      cases ok <;> exact ⟨rfl, rfl⟩
    rw [hres.1, hres.2]
    obtain ⟨C, hC⟩ : ∃ C, g.C = C := ⟨_, rfl⟩
    rw [hC] at k1 hcl
    clear h hc k0 k2 hof hok hcc hci hres hC
    generalize B i.toNat = b at *
    go_enter Tryz.func25, Tryz.ntmps25
    go_wp2_with (first
      | (go_at_call 66; refine hq.mono ?_; rintro e w1 ⟨rfl, hw⟩; subst w1))
    exact bodyPost_ret (v := .tuple #[.int .i64 (c : Int), .bool ok]) (by simp [results, Tryz.results25, go_sem]) rfl ⟨rfl, rfl⟩
  · rw [if_neg hc] at hl
    have hof : cameV K G i u.data.toList = none := by unfold cameV ofV; rw [if_neg hc]
    rw [hof]
    clear h hc hof
    go_enter Tryz.func25, Tryz.ntmps25
    go_wp2_with (first
      | (go_at_call 66; refine hq.mono ?_; rintro e w1 ⟨rfl, hw⟩; subst w1))
    exact bodyPost_ret (v := .tuple #[.int .i64 0, .bool false]) (by simp [results, Tryz.results25, go_sem]) rfl ⟨rfl, rfl⟩
end Go.Proofs.Dc
