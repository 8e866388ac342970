/- The walks of the queue's other methods. -/
import Derived.Test.YtkejopmohnfpgaaW1
namespace Go.Proofs.Ytkejopmohnfpgaa
open Go.RowKit Go.Maps Go.Proofs

theorem own_base {w : World} {B B' e size n : Nat} {v : Value} {xs : List Value} (h : w.ownsRow B e size v n xs) (hb : B' ≤ B) : w.ownsRow B' e size v n xs := by
  obtain ⟨h1, h2⟩ := h
  refine ⟨h1, ?_⟩
  rcases h2 with h2 | ⟨g, cap, cur, hv, hg, r⟩
  · exact .inl h2
  · exact .inr ⟨g, cap, cur, hv, Nat.le_trans hb hg, r⟩
theorem at_job {D : DataW Unit} {L : List J} (hD : MapIs D L) {j : J} (hj : j ∈ L) {v : Value} {ps : List MemPlace} (hv : ptrElem v = some (D.atKey (key j.id) .nil, ps)) : v = .pointer (some ⟨j.blk, 0, none⟩) := by
  rw [hD.at_ j hj] at hv
  obtain ⟨n, h1, h2⟩ := ptrElem_inv hv
  obtain rfl : n = j.blk := by omega
  exact h1
theorem at_none {D : DataW Unit} {L : List J} (hD : MapIs D L) {id : ByteArray} (hn : hasL L id = false) {v : Value} {ps : List MemPlace} (hv : ptrElem v = some (D.atKey (key id) .nil, ps)) : v = .pointer none := by
  have h := hD.has id
  rw [hn] at h
  rw [atKey_of_not_has h] at hv
  exact ptrElem_nil hv

set_option maxRecDepth 100000 in
theorem len_q {B : Nat} {w : World} {qb mb : Nat} {lv : Value} {s : QS} (h : Qi B w qb mb lv s) :
    Calls Try.prog 13 #[.pointer (some ⟨qb, 0, none⟩)] w fun e w' => e = .returned (.int .i64 (lineL s.L).length) ∧ w = w' := by
  obtain ⟨c0, c1, c2, c3, c4⟩ := h.cells
  obtain ⟨p, cap, rfl⟩ := line_shape h.line
  go_enter Try.func13, Try.ntmps13
  go_wp2_with (first
    | (go_at_call 22; refine (is_yes h).mono ?_; rintro e w' ⟨rfl, hw⟩; subst hw))
  go_ret
  exact ⟨rfl, rfl⟩
set_option maxRecDepth 100000 in
theorem close_q {B : Nat} {w : World} {qb mb : Nat} {lv : Value} {s : QS} (h : Qi B w qb mb lv s) :
    Calls Try.prog 14 #[.pointer (some ⟨qb, 0, none⟩)] w fun e w' => e = .returned (.int .i64 0) ∧ Below B w w' ∧ Qi B w' qb mb lv { s with closed := true } := by
  obtain ⟨c0, c1, c2, c3, c4⟩ := h.cells
  have f4 := h.free 4
  go_enter Try.func14, Try.ntmps14
  go_wp2_with (first
    | (go_at_call 22; refine (is_yes h).mono ?_; rintro e w' ⟨rfl, hw⟩; subst hw))
  go_ret
  exact ⟨rfl, (Below.refl _ _).setCell h.base.1 _, h.shut (by decide) (by decide)⟩
set_option maxRecDepth 100000 in
theorem cancel_no {B : Nat} {w : World} {qb mb : Nat} {lv : Value} {s : QS} (h : Qi B w qb mb lv s) (id : ByteArray) (hid : id.size ≤ maxLen) (hn : hasL s.L id = false) :
    Calls Try.prog 9 #[.pointer (some ⟨qb, 0, none⟩), .string id] w fun e w' => e = .returned (.bool false) ∧ w = w' := by
  obtain ⟨c0, c1, c2, c3, c4⟩ := h.cells
  obtain ⟨D, hown, hD⟩ := h.map
  have hhas := hD.has id
  rw [hn] at hhas
  have hkey : keyOf Try.prog 9 (.string id) = some (key id) := WideMaps.keyOf_string_mk Try.underlying9 hid
  go_enter Try.func9, Try.ntmps9
  go_wp2_with (first
    | (go_at_call 22; refine (is_yes h).mono ?_; rintro e w' ⟨rfl, hw⟩; subst hw)
    | (at_lookup; refine wpList_lookup_own_ok _ rfl _ _ 50 rfl 9 53 law9 Try.underlying50 ptrElem (zero53 _) .nil [] rfl mb s.pushed D rfl hown _ (key id) rfl hkey ?_; rw [hhas]; intro v ps hv))
  go_ret
  exact ⟨rfl, rfl⟩
set_option maxRecDepth 100000 in
theorem cancel_yes {B : Nat} {w : World} {qb mb : Nat} {lv : Value} {s : QS} (h : Qi B w qb mb lv s) (id : ByteArray) (hid : id.size ≤ maxLen) (hn : hasL s.L id = true) :
    Calls Try.prog 9 #[.pointer (some ⟨qb, 0, none⟩), .string id] w fun e w' => e = .returned (.bool true) ∧ Below B w w' ∧ Qi B w' qb mb lv { s with L := turn s.L id fun j => { j with marked := true } } := by
  obtain ⟨c0, c1, c2, c3, c4⟩ := h.cells
  obtain ⟨D, hown, hD⟩ := h.map
  obtain ⟨j, hj, rfl⟩ := hasL_true hn
  have hhas := hD.has j.id
  rw [hn] at hhas
  obtain ⟨b1, b2, b3⟩ := h.jobs j hj
  have j3 := qcell b1 (Keeps.refl w _) 3 rfl
  have z3 := qfree b1 (Keeps.refl w _) 3
  have hkey : keyOf Try.prog 9 (.string j.id) = some (key j.id) := WideMaps.keyOf_string_mk Try.underlying9 hid
  go_enter Try.func9, Try.ntmps9
  go_wp2_with (first
    | (go_at_call 22; refine (is_yes h).mono ?_; rintro e w' ⟨rfl, hw⟩; subst hw)
    | (at_lookup; refine wpList_lookup_own_ok _ rfl _ _ 50 rfl 9 53 law9 Try.underlying50 ptrElem (zero53 _) .nil [] rfl mb s.pushed D rfl hown _ (key j.id) rfl hkey ?_; rw [hhas]; intro v ps hv; obtain rfl := at_job hD hj hv))
  go_ret
  have k1 : ∀ {q : Obj → Prop}, (∀ c, ¬ q (.cells c 56 (0, 0))) → Keeps w (w.setCell ⟨j.blk, 3, none⟩ (.bool true)) q := fun hq => (Keeps.refl _ _).setCell b1 (hq _) _
  have hl := lineL_turn (L := s.L) (id := j.id) (f := fun j => { j with marked := true }) (fun _ => rfl) (fun _ => rfl)
  refine ⟨rfl, (Below.refl _ _).setCell b3 _, h.turned (j := j) hj rfl (fun _ => rfl) (fun _ => rfl) (fun _ => rfl) (cells_keeps h.blk (k1 (ofT_ne (by decide)))) ?_ (by rw [hl]; exact Nat.le_refl _) (k1 (fun c => ofMap_cells _ _ _)) (fun i hi hne => heap_setCell_other _ _ _ _ (h.apart.blk hi hj hne)) (cells_set b1 _) (by rw [World.size_setCell]; exact h.base.2.2)⟩
  rw [hl]
  exact line_keeps h.line (k1 (ofT_ne (by decide)))
set_option maxRecDepth 100000 in
theorem done_no {B : Nat} {w : World} {qb mb : Nat} {lv : Value} {s : QS} (h : Qi B w qb mb lv s) (id : ByteArray) (hid : id.size ≤ maxLen) (hn : hasL s.L id = false) :
    Calls Try.prog 11 #[.pointer (some ⟨qb, 0, none⟩), .string id] w fun e w' => e = .returned (.tuple #[.bool false, .int .i64 5]) ∧ w = w' := by
  obtain ⟨c0, c1, c2, c3, c4⟩ := h.cells
  obtain ⟨D, hown, hD⟩ := h.map
  have hhas := hD.has id
  rw [hn] at hhas
  have hkey : keyOf Try.prog 9 (.string id) = some (key id) := WideMaps.keyOf_string_mk Try.underlying9 hid
  go_enter Try.func11, Try.ntmps11
  go_wp2_with (first
    | (go_at_call 22; refine (is_yes h).mono ?_; rintro e w' ⟨rfl, hw⟩; subst hw)
    | (at_lookup; refine wpList_lookup_own_ok _ rfl _ _ 50 rfl 9 53 law9 Try.underlying50 ptrElem (zero53 _) .nil [] rfl mb s.pushed D rfl hown _ (key id) rfl hkey ?_; rw [hhas]; intro v ps hv))
  go_ret2
  exact ⟨rfl, rfl⟩
set_option maxRecDepth 100000 in
theorem done_wait {B : Nat} {w : World} {qb mb : Nat} {lv : Value} {s : QS} (h : Qi B w qb mb lv s) (j : J) (hj : j ∈ s.L) (hid : j.id.size ≤ maxLen) (ht : j.taken = false) :
    Calls Try.prog 11 #[.pointer (some ⟨qb, 0, none⟩), .string j.id] w fun e w' => e = .returned (.tuple #[.bool false, .int .i64 5]) ∧ w = w' := by
  obtain ⟨c0, c1, c2, c3, c4⟩ := h.cells
  obtain ⟨D, hown, hD⟩ := h.map
  have hhas := hD.has j.id
  rw [show hasL s.L j.id = true from List.any_eq_true.2 ⟨j, hj, decide_eq_true rfl⟩] at hhas
  obtain ⟨b1, b2, b3⟩ := h.jobs j hj
  have j2 : w.cell? ⟨j.blk, 2, none⟩ = some (.bool false) := qcell b1 (Keeps.refl w _) 2 (by rw [ht]; rfl)
  have hkey : keyOf Try.prog 9 (.string j.id) = some (key j.id) := WideMaps.keyOf_string_mk Try.underlying9 hid
  go_enter Try.func11, Try.ntmps11
  go_wp2_with (first
    | (go_at_call 22; refine (is_yes h).mono ?_; rintro e w' ⟨rfl, hw⟩; subst hw)
    | (at_lookup; refine wpList_lookup_own_ok _ rfl _ _ 50 rfl 9 53 law9 Try.underlying50 ptrElem (zero53 _) .nil [] rfl mb s.pushed D rfl hown _ (key j.id) rfl hkey ?_; rw [hhas]; intro v ps hv; obtain rfl := at_job hD hj hv))
  go_ret2
  exact ⟨rfl, rfl⟩
set_option maxRecDepth 100000 in
theorem done_yes {B : Nat} {w : World} {qb mb : Nat} {lv : Value} {s : QS} (h : Qi B w qb mb lv s) (j : J) (hj : j ∈ s.L) (hid : j.id.size ≤ maxLen) (ht : j.taken = true) :
    Calls Try.prog 11 #[.pointer (some ⟨qb, 0, none⟩), .string j.id] w fun e w' => e = .returned (.tuple #[.bool j.marked, .int .i64 0]) ∧ Below B w w' ∧ Qi B w' qb mb lv { s with L := s.L.filter fun i => decide (i.id ≠ j.id) } := by
  obtain ⟨c0, c1, c2, c3, c4⟩ := h.cells
  obtain ⟨D, hown, hD⟩ := h.map
  have hhas := hD.has j.id
  rw [show hasL s.L j.id = true from List.any_eq_true.2 ⟨j, hj, decide_eq_true rfl⟩] at hhas
  obtain ⟨b1, b2, b3⟩ := h.jobs j hj
  have j2 : w.cell? ⟨j.blk, 2, none⟩ = some (.bool true) := qcell b1 (Keeps.refl w _) 2 (by rw [ht]; rfl)
  have hkey : keyOf Try.prog 9 (.string j.id) = some (key j.id) := WideMaps.keyOf_string_mk Try.underlying9 hid
  go_enter Try.func11, Try.ntmps11
  go_wp2_with (first
    | (go_at_call 22; refine (is_yes h).mono ?_; rintro e w' ⟨rfl, hw⟩; subst hw)
    | (at_lookup; refine wpList_lookup_own_ok _ rfl _ _ 50 rfl 9 53 law9 Try.underlying50 ptrElem (zero53 _) .nil [] rfl mb s.pushed D rfl hown _ (key j.id) rfl hkey ?_; rw [hhas]; intro v ps hv; obtain rfl := at_job hD hj hv)
    | (at_delete; refine wpList_delete_own _ rfl _ _ 50 9 rfl 53 law9 Try.underlying50 ptrElem mb s.pushed D rfl hown _ (key j.id) rfl hkey ?_; intro w1 hown1 hturn1
       have j3 : w1.cell? ⟨j.blk, 3, none⟩ = some (.bool j.marked) := qcell b1 (((Keeps.refl w NoMap).turned hturn1 noMap_map).imp ofT_noMap) 3 rfl))
  go_ret2
  have d1 := below_turned (Below.refl B w) hturn1 h.base.2.1
  refine ⟨rfl, d1, h.dropped (fun i hi he => ?_) ((Keeps.refl w NoMap).turned hturn1 noMap_map) hD hown1 (Nat.le_trans h.base.2.2 d1.size)⟩
  rw [h.apart.uniq hi hj he]; exact ht
end Go.Proofs.Ytkejopmohnfpgaa
