/- QueuePlays: the walk. -/
import Derived.Test.YtkejopmohnfpgaaN7
import Derived.Test.YtkejopmohnfpgaaL1
import Derived.Test.YtkejopmohnfpgaaW4
namespace Go.Proofs.Ytkejopmohnfpgaa
open Go.RowKit Go.Maps Go.Proofs

set_option maxRecDepth 100000 in
theorem new_none (w : World) (m : Int) (h : m < 1 ∨ 64 < m) :
    Calls Try.prog 7 #[.int .i64 m] w fun e w' => e = .returned (.pointer none) ∧ w = w' := by
  rcases h with h | h
  · go_enter Try.func7, Try.ntmps7
    go_wp2
    go_ret
    exact ⟨rfl, rfl⟩
  · have h' : ¬ m < 1 := by omega
    go_enter Try.func7, Try.ntmps7
    go_wp2
    go_ret
    exact ⟨rfl, rfl⟩
set_option maxRecDepth 100000 in
theorem plays_none (w : World) (m : Int) (h : m < 1 ∨ 64 < m) (pa : Option Addr) (na ca : Nat) :
    Calls Try.prog 5 #[.int .i64 m, .slice pa na ca] w fun e w' => e = .returned (.bool true) ∧ Below w.heap.size w w' := by
  have hn := new_none w m h
  rcases h with h | h
  · go_enter Try.func5, Try.ntmps5
    go_wp2_with (first
      | (go_at_call 7; refine hn.mono ?_; rintro e w1 ⟨rfl, hw⟩; subst hw)
      | (go_at_call 12; refine (awake_true _).mono ?_; rintro e w1 ⟨rfl, d1⟩))
    go_ret
    exact ⟨rfl, d1⟩
  · have h' : ¬ m < 1 := by omega
    go_enter Try.func5, Try.ntmps5
    go_wp2_with (first
      | (go_at_call 7; refine hn.mono ?_; rintro e w1 ⟨rfl, hw⟩; subst hw)
      | (go_at_call 12; refine (awake_true _).mono ?_; rintro e w1 ⟨rfl, d1⟩))
    go_ret
    exact ⟨rfl, d1⟩
theorem add_blk (a : Addr) (i : Nat) : (a.add i).block = a.block := by unfold Addr.add; split <;> rfl
theorem ids_row {v : World} {B : Nat} {p : Value} {L : List J} (h : v.ownsRow B 9 1 p L.length (L.map (fun j => Value.string j.id))) : v.ownsRow B 9 1 p (L.map J.id).length ((L.map J.id).map Value.string) := by
  rw [List.length_map, List.map_map]
  exact h
section
variable {B : Nat} {w3 : World} {qb mb rb : Nat} {lv lr : Value} {s : QS}
theorem Both.cl (H : Both B w3 qb mb rb lv lr s) {v : World} (D : Below w3.heap.size w3 v) : v.cell? ⟨rb, 2, none⟩ = some (.bool s.closed) := (H.r.below D).cells.2.2
theorem both_len (H : Both B w3 qb mb rb lv lr s) (v : World) (D : Below w3.heap.size w3 v) : Calls Try.prog 13 #[.pointer (some ⟨qb, 0, none⟩)] v fun e w' => e = .returned (.int .i64 (lineL s.L).length) ∧ v = w' := len_q (H.q.below D)
theorem both_lenR (H : Both B w3 qb mb rb lv lr s) (v : World) (D : Below w3.heap.size w3 v) : Calls Try.prog 17 #[.pointer (some ⟨rb, 0, none⟩)] v fun e w' => e = .returned (.int .i64 (lineL s.L).length) ∧ v = w' :=
  (lenR_any (H.r.below D)).mono fun _ _ ⟨h1, h2⟩ => ⟨h1, h2.symm⟩
theorem both_closed (H : Both B w3 qb mb rb lv lr s) (v : World) (D : Below w3.heap.size w3 v) : Calls Try.prog 21 #[.pointer (some ⟨qb, 0, none⟩)] v fun e w' => e = .returned (.bool s.closed) ∧ v = w' := closed_q (H.q.below D)
theorem both_pend (H : Both B w3 qb mb rb lv lr s) (v : World) (D : Below w3.heap.size w3 v) : Calls Try.prog 19 #[.pointer (some ⟨qb, 0, none⟩)] v fun e w' => ∃ pv, e = .returned pv ∧ w'.ownsRow w3.heap.size 9 1 pv (s.L.map J.id).length ((s.L.map J.id).map Value.string) ∧ Below w3.heap.size w3 w' := by
  refine (pending_any (H.q.below D) H.good.rise).mono ?_
  rintro e w' ⟨pv, rfl, ho, hb⟩
  exact ⟨pv, rfl, ids_row (own_base ho D.size), D.trans (hb.mono D.size)⟩
theorem both_pendR (H : Both B w3 qb mb rb lv lr s) (v : World) (D : Below w3.heap.size w3 v) {pv : Value} {n : Nat} {xs : List Value} (ho : v.ownsRow w3.heap.size 9 1 pv n xs) :
    Calls Try.prog 20 #[.pointer (some ⟨rb, 0, none⟩)] v fun e w' => ∃ pr, e = .returned pr ∧ w'.ownsRow w3.heap.size 9 1 pr (s.L.map J.id).length ((s.L.map J.id).map Value.string) ∧ w'.ownsRow w3.heap.size 9 1 pv n xs ∧ Below w3.heap.size w3 w' := by
  refine (pendingR_any (H.r.below D)).mono ?_
  rintro e w' ⟨pr, rfl, hr, hb⟩
  exact ⟨pr, rfl, ids_row (own_base hr D.size), line_keeps ho ((Keeps.refl _ _).below hb), D.trans (hb.mono D.size)⟩
theorem both_same (v : World) (D : Below w3.heap.size w3 v) {pv pr : Value} {xs : List ByteArray} (hx : xs.length ≤ 1000000) (h1 : v.ownsRow w3.heap.size 9 1 pv xs.length (xs.map Value.string)) (h2 : v.ownsRow w3.heap.size 9 1 pr xs.length (xs.map Value.string)) :
    Calls Try.prog 18 #[pv, pr] v fun e w' => e = .returned (.bool true) ∧ Below w3.heap.size w3 w' := by
  refine (sameR_true h1 h2 hx).mono ?_
  rintro e w' ⟨rfl, _, hb⟩
  exact ⟨rfl, D.trans (hb.mono D.size)⟩
end
def ActAt (w : World) (a : Addr) (what : Int) (id : ByteArray) (x : Int) : Prop :=
  w.cell? a = some (.int .i64 what) ∧ w.cell? ⟨a.block, a.off + 1, none⟩ = some (.string id) ∧ w.cell? ⟨a.block, a.off + 2, none⟩ = some (.int .i64 x) ∧ id.size ≤ maxLen
set_option maxRecDepth 100000 in
set_option maxHeartbeats 2000000 in
theorem plays_walk (w : World) (m : Nat) (h1 : 1 ≤ m) (h2 : m ≤ 64) (pa : Option Addr) (na ca : Nat) (_hna : na ≤ maxLen)
    (hI : ∀ i, i < na → ∃ (a : Addr) (what x : Int) (id : ByteArray), pa = some a ∧ ActAt w (a.add (i * 3)) what id x ∧ (a.add (i * 3)).block < w.heap.size) :
    Calls Try.prog 5 #[.int .i64 m, .slice pa na ca] w fun e w' => e = .returned (.bool true) ∧ Below w.heap.size w w' := by
  have e1 : decide ((m : Int) < 1) = false := by simp; omega
  have e2 : decide ((64 : Int) < (m : Int)) = false := by simp; omega
  unfold maxLen at _hna
  go_enter Try.func5, Try.ntmps5
  go_wp2_with (first
    | (go_at_call 7; refine (new_q w m h1 h2).mono ?_; rintro e w1 ⟨qb, mb, rfl, d1, H1⟩))
  have d2 : Below w.heap.size w (w1.alloc (.cells #[.int .i64 m, .slice none 0 0, .bool false] 43)) := d1.alloc d1.size _
  have b2 : (w1.alloc (.cells #[.int .i64 m, .slice none 0 0, .bool false] 43)).heap[w1.heap.size]? = some (.cells #[.int .i64 m, .slice none 0 0, .bool false] 43 (0, 0)) := Array.getElem?_push_size
  have HB : Both w.heap.size (w1.alloc (.cells #[.int .i64 m, .slice none 0 0, .bool false] 43)) qb mb w1.heap.size (.slice none 0 0) (.slice none 0 0) ⟨m, [], 0, false⟩ :=
    ⟨H1.below ((Below.refl _ _).alloc (Nat.le_refl _) _), ⟨b2, World.ownsRow_nil _ _ _ _, ⟨d1.size, d2.size⟩, Nat.zero_le _⟩, ⟨fun j hj => (by cases hj), List.Pairwise.nil, fun j hj => (by cases hj), Nat.le_refl _, Nat.zero_le _⟩⟩
  generalize w1.alloc (.cells #[.int .i64 m, .slice none 0 0, .bool false] 43) = w2 at d2 b2 HB ⊢
  clear b2 H1
  generalize w1.heap.size = rb at HB ⊢
  go_loopw [7, 8] (fun l i wr => ∃ (k : Nat) (last : ByteArray) (lv lr : Value) (s : QS), i = .int .i64 k ∧ l = .string last ∧ k ≤ na ∧ k ≤ 200 ∧ last.size ≤ maxLen ∧ Both w.heap.size wr qb mb rb lv lr s ∧ s.pushed ≤ k ∧ Below w.heap.size w wr) (fun _ i _ => 200 - (RowKit.intOf i).toNat)
  case atStart => exact ⟨0, ⟨#[]⟩, _, _, _, rfl, rfl, Nat.zero_le _, by omega, by show (0:Nat) ≤ _; exact Nat.zero_le _, HB, Nat.le_refl _, d2⟩
  case round =>
    obtain ⟨k, last, lv, lr, s, rfl, rfl, hk, hk2, hla, H, hp, hB⟩ := hrel
    by_cases hkn : (k : Int) < (na : Int)
    · by_cases hk3 : (k : Int) < 200
      · obtain ⟨a, what, x, id, rfl, ⟨a0, a1, a2, hid⟩, hab⟩ := hI k (by omega)
        have g0 := (hB.cell (p := a.add (k * 3)) hab).trans a0
        have g1 := (hB.cell (p := ⟨(a.add (k * 3)).block, (a.add (k * 3)).off + 1, none⟩) hab).trans a1
        have g2 := (hB.cell (p := ⟨(a.add (k * 3)).block, (a.add (k * 3)).off + 2, none⟩) hab).trans a2
        clear a0 a1 a2
        go_wp2_with (first
          | (go_at_call 16; refine (one_any H what id last x hid hla (by omega)).mono ?_; rintro e w3 ⟨last3, lv3, lr3, s3, rfl, d3, H3, hla3, hp3⟩))
        have D0 : Below w3.heap.size w3 w3.drew := Below.drew (Below.refl _ _)
        have hL : (s3.L.map J.id).length ≤ 1000000 := by rw [List.length_map]; have := H3.good.cnt; omega
        have z0 := H3.cl D0
        go_region_held3 (fun v => v.cell? ⟨rb, 2, none⟩ = some (.bool s3.closed)) (first | assumption)
          (first
            | (go_at_call 13; refine (both_len H3 _ (by assumption)).mono ?_; rintro e v1 ⟨rfl, hw⟩; subst hw)
            | (go_at_call 17; refine (both_lenR H3 _ (by assumption)).mono ?_; rintro e v1 ⟨rfl, hw⟩; subst hw)
            | (go_at_call 19; refine (both_pend H3 _ (by assumption)).mono ?_; rintro e v4 ⟨pv, rfl, o4, D4⟩; have z4 := H3.cl D4)
            | (go_at_call 20; refine (both_pendR H3 _ D4 o4).mono ?_; rintro e v5 ⟨pr, rfl, p5, o5, D5⟩; have z5 := H3.cl D5)
            | (go_at_call 18; refine (both_same _ D5 hL o5 p5).mono ?_; rintro e v6 ⟨rfl, D6⟩; have z6 := H3.cl D6)
            | (go_at_call 21; refine (both_closed H3 _ D6).mono ?_; rintro e v7 ⟨rfl, hw⟩; subst hw))
        go_wp2
        have D : Below w.heap.size w v6 := (hB.trans d3).trans (D6.mono (hB.trans d3).size)
        exact ⟨⟨k + 1, last3, lv3, lr3, s3, by go_num, rfl, by omega, by omega, hla3, ⟨H3.q.below D6, H3.r.below D6, H3.good⟩, by omega, D⟩, by simp [RowKit.intOf]; omega⟩
      · go_wp2_with (first
          | (go_at_call 12; refine (awake_true _).mono ?_; rintro e w4 ⟨rfl, d4⟩))
        go_ret
        exact ⟨rfl, hB.trans (d4.mono hB.size)⟩
    · go_wp2_with (first
        | (go_at_call 12; refine (awake_true _).mono ?_; rintro e w4 ⟨rfl, d4⟩))
      go_ret
      exact ⟨rfl, hB.trans (d4.mono hB.size)⟩
end Go.Proofs.Ytkejopmohnfpgaa
