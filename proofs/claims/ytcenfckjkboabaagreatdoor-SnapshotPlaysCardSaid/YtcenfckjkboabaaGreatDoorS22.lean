/- The document's generations in memory: what they tell. -/
import Derived.Test.YtcenfckjkboabaaGreatDoorS17
import Derived.Test.YtcenfckjkboabaaGreatDoorS18
namespace Go.Proofs.Dc
open Go.RowKit Go.Proofs Go.Lib Go.Maps

/-- one of them -/
structure RGen (w : World) (lo b : Nat) (g : Gen) where
  d : Nat
  v : Value
  hd : w.heap[b]? = some (.cells #[.pointer (some ⟨d, 0, none⟩), .int .i64 (g.held : Int), .string ⟨g.uri.toArray⟩] 106 (0, 0))
  rv : RV w d lo v g.docs
  lob : lo ≤ b
def ptrs (Bs : List Nat) : List Value := Bs.map fun b => .pointer (some ⟨b, 0, none⟩)
/-- all of them: r: their block, v: their row -/
structure AV (w : World) (r lo : Nat) (v : Value) (Bs : List Nat) (G : List Gen) : Prop where
  hd : w.heap[r]? = some (.cells #[v] 109 (0, 0))
  lor : lo ≤ r
  row : w.ownsRow lo 104 1 v G.length (ptrs Bs)
  len : Bs.length = G.length
  el : ∀ (n : Nat) (g : Gen) (b : Nat), G[n]? = some g → Bs[n]? = some b → Nonempty (RGen w lo b g)
  inj : ∀ (i j b : Nat), Bs[i]? = some b → Bs[j]? = some b → i = j
def kindR (t : TypeId) : Prop := t = 109 ∨ t = 104 ∨ t = 106 ∨ t = 30 ∨ t = 53
theorem own_cells {w w' : World} {B e z n : Nat} {v : Value} {xs : List Value} (h : w.ownsRow B e z v n xs) (hk : ∀ (k : Nat) (c : Array Value) (f : Nat × Nat), w.heap[k]? = some (.cells c e f) → w'.heap[k]? = some (.cells c e f)) : w'.ownsRow B e z v n xs := by
  refine ⟨h.1, ?_⟩
  rcases h.2 with h2 | ⟨g, cap, cur, rfl, h3', h3, h4⟩
  · exact .inl h2
  · exact .inr ⟨g, cap, cur, rfl, h3', hk _ _ _ h3, h4⟩
theorem RV.cells {w w' : World} {r base : Nat} {v : Value} {L : List Doc} (h : RV w r base v L) (hk : ∀ (k : Nat) (c : Array Value) (t : TypeId) (f : Nat × Nat), w.heap[k]? = some (.cells c t f) → t = 30 ∨ t = 53 → w'.heap[k]? = some (.cells c t f)) : RV w' r base v L :=
  ⟨hk _ _ _ _ h.hd (.inl rfl), own_cells h.row fun k c f e => hk k c 53 f e (.inr rfl), h.lo⟩
theorem AV.cells {w w' : World} {r lo : Nat} {v : Value} {Bs : List Nat} {G : List Gen} (h : AV w r lo v Bs G) (hk : ∀ (k : Nat) (c : Array Value) (t : TypeId) (f : Nat × Nat), w.heap[k]? = some (.cells c t f) → kindR t → w'.heap[k]? = some (.cells c t f)) : AV w' r lo v Bs G :=
  ⟨hk _ _ _ _ h.hd (.inl rfl), h.lor, own_cells h.row fun k c f e => hk k c 104 f e (.inr (.inl rfl)), h.len, fun n g b h1 h2 => by
    obtain ⟨x⟩ := h.el n g b h1 h2
    exact ⟨⟨x.d, x.v, hk _ _ _ _ x.hd (.inr (.inr (.inl rfl))), x.rv.cells fun k c t f e ht => hk k c t f e (.inr (.inr (.inr ht))), x.lob⟩⟩, h.inj⟩
theorem below_cells {w w' : World} (hb : Below w.heap.size w w') : ∀ (k : Nat) (c : Array Value) (t : TypeId) (f : Nat × Nat), w.heap[k]? = some (.cells c t f) → w'.heap[k]? = some (.cells c t f) := fun k _c _t _f e => (hb.block k (Array.getElem?_eq_some_iff.1 e).1).trans e
theorem AV.below {w w' : World} {r lo : Nat} {v : Value} {Bs : List Nat} {G : List Gen} (h : AV w r lo v Bs G) (hb : Below w.heap.size w w') : AV w' r lo v Bs G := h.cells fun k c t f e _ => below_cells hb k c t f e
theorem AV.fs {w w' : World} {s m lo' : Nat} {G' : List Gen} (hs : SV w s m lo' G') (hf : FsK w w' s m) {r lo : Nat} {v : Value} {Bs : List Nat} {G : List Gen} (h : AV w r lo v Bs G) : AV w' r lo v Bs G := h.cells fun k c t f e ht => by
  obtain ⟨_, _, D, q⟩ := hs
  refine (hf.block k (Array.getElem?_eq_some_iff.1 e).1 (fun e2 => ?_) (fun e2 => ?_) (fun c f e2 => ?_)).trans e
  · exact ne_types e q.hd (by rcases ht with rfl | rfl | rfl | rfl | rfl <;> decide) e2
  · exact ne_map q.mp e e2.symm
  · rw [e] at e2
    simp at e2
    rcases ht with rfl | rfl | rfl | rfl | rfl <;> simp at e2
section
variable {w : World} {r lo : Nat} {v : Value} {Bs : List Nat} {G : List Gen} (h : AV w r lo v Bs G)
include h
theorem AV.lt : r < w.heap.size := (Array.getElem?_eq_some_iff.1 h.hd).1
theorem AV.cell : w.cell? ⟨r, 0, none⟩ = some v := by simp [World.cell?, h.hd]
theorem AV.opened (hne : G ≠ []) : ∃ g cap, v = .slice (some ⟨g, 0, none⟩) G.length cap ∧ ∀ (n b : Nat), Bs[n]? = some b → w.cell? ⟨g, n, none⟩ = some (.pointer (some ⟨b, 0, none⟩)) := by
  have hl : 0 < G.length := List.length_pos_iff.2 hne
  have hr := h.row
  rcases hr.2 with ⟨_, h0⟩ | ⟨g, cap, cur, rfl, _, _, _⟩
  · omega
  · refine ⟨g, cap, rfl, fun n b hb => ?_⟩
    have hn := (List.getElem?_eq_some_iff.1 hb).1
    rw [hr.cellAt n (by have := h.len; omega)]
    unfold ptrs
    rw [List.getElem?_map, hb]
    rfl
/-- the one of a number -/
theorem AV.gen {n : Nat} {g : Gen} (hg : G[n]? = some g) : ∃ b d u, Bs[n]? = some b ∧ RV w d lo u g.docs ∧ w.cell? ⟨b, 0, none⟩ = some (.pointer (some ⟨d, 0, none⟩)) ∧ w.cell? ⟨b, 1, none⟩ = some (.int .i64 (g.held : Int)) ∧ w.cell? ⟨b, 2, none⟩ = some (.string ⟨g.uri.toArray⟩) ∧ b < w.heap.size := by
  have hn := (List.getElem?_eq_some_iff.1 hg).1
  obtain ⟨b, hb⟩ : ∃ b, Bs[n]? = some b := ⟨_, List.getElem?_eq_getElem (by have := h.len; omega)⟩
  obtain ⟨x⟩ := h.el n g b hg hb
  have hx := x.hd
  exact ⟨b, x.d, x.v, hb, x.rv, by simp [World.cell?, hx], by simp [World.cell?, hx], by simp [World.cell?, hx], (Array.getElem?_eq_some_iff.1 hx).1⟩
set_option maxRecDepth 100000 in
theorem rnow_any (hne : G ≠ []) (hl : G.length ≤ 1000) : Calls Tryz.prog 73 #[.pointer (some ⟨r, 0, none⟩)] w fun e w' => e = .returned (.int .i64 ((G.length - 1 : Nat) : Int)) ∧ w = w' := by
  obtain ⟨g, cap, rfl, _⟩ := h.opened hne
  have hc := h.cell
  have hpos : 0 < G.length := List.length_pos_iff.2 hne
  obtain ⟨n, hn⟩ : ∃ n, G.length = n + 1 := ⟨G.length - 1, by omega⟩
  rw [hn] at hc hl ⊢
  simp only [Nat.add_sub_cancel]
  clear h hn hpos hne
  go_enter Tryz.func73, Tryz.ntmps73
  go_wp2
  go_ret
  exact ⟨rfl, rfl⟩
set_option maxRecDepth 100000 in
set_option maxHeartbeats 1000000 in
theorem rkept1_any (hne : G ≠ []) (hl : G.length ≤ 1000) (i : Int) : Calls Tryz.prog 99 #[.pointer (some ⟨r, 0, none⟩), .int .i64 i] w fun e w' => e = .returned (.bool (decide (0 ≤ i ∧ kept G i.toNat = true))) ∧ w = w' := by
  have hnow := rnow_any h hne hl
  have hpos : 0 < G.length := List.length_pos_iff.2 hne
  obtain ⟨N1, hN1⟩ : ∃ n, G.length - 1 = n := ⟨_, rfl⟩
  rw [hN1] at hnow
  by_cases h0 : i < 0
  · have hf : decide (0 ≤ i ∧ kept G i.toNat = true) = false := decide_eq_false fun e => by omega
    rw [hf]
    clear h hf hN1 hne hpos
    go_enter Tryz.func99, Tryz.ntmps99
    go_wp2_with (first | (go_at_call 73; refine hnow.mono ?_; rintro e w1 ⟨rfl, hw⟩; subst w1))
    go_ret
    exact ⟨rfl, rfl⟩
  · obtain ⟨k, rfl⟩ : ∃ k : Nat, i = k := ⟨i.toNat, by omega⟩
    rw [Int.toNat_natCast]
    by_cases h1 : (N1 : Int) < (k : Int)
    · have hf : decide (0 ≤ (k : Int) ∧ kept G k = true) = false := decide_eq_false fun e => by
        have := kept_ge (G := G) (i := k) (by omega)
        rw [this] at e
        cases e.2
      rw [hf]
      have hk0 : 0 ≤ (k : Int) := by omega
      clear h hf hN1 hne hpos h0
      go_enter Tryz.func99, Tryz.ntmps99
      go_wp2_with (first | (go_at_call 73; refine hnow.mono ?_; rintro e w1 ⟨rfl, hw⟩; subst w1))
      go_ret
      exact ⟨rfl, rfl⟩
    · obtain ⟨x, hx⟩ : ∃ x, G[k]? = some x := ⟨_, List.getElem?_eq_getElem (by omega)⟩
      obtain ⟨b, d, u, hb, _, _, c1, _, _⟩ := h.gen hx
      obtain ⟨g, cap, rfl, hp⟩ := h.opened hne
      have cp := hp k b hb
      have hc := h.cell
      have hk : kept G k = decide (k = N1 ∨ 0 < x.held) := by
        unfold kept
        rw [hx]
        simp only
        congr 1
        rw [eq_iff_iff]
        exact or_congr (by omega) Iff.rfl
      rw [hk]
      have hk0 : 0 ≤ (k : Int) := by omega
      have hkl : k < G.length := by omega
      by_cases h2 : k = N1
      · have hf : decide (0 ≤ (k : Int) ∧ decide (k = N1 ∨ 0 < x.held) = true) = true := decide_eq_true ⟨hk0, decide_eq_true (.inl h2)⟩
        rw [hf]
        subst h2
        have hkk : ((k : Int) == (k : Int)) = true := by simp
        clear h hf hN1 hne hpos h0 hk hp hb hx
        go_enter Tryz.func99, Tryz.ntmps99
        go_wp2_with (first | (go_at_call 73; refine hnow.mono ?_; rintro e w1 ⟨rfl, hw⟩; subst w1))
        go_ret
        exact ⟨rfl, rfl⟩
      · have hkk : ((k : Int) == (N1 : Int)) = false := beq_eq_false_iff_ne.2 (by omega)
        by_cases h3 : 0 < x.held
        · have hf : decide (0 ≤ (k : Int) ∧ decide (k = N1 ∨ 0 < x.held) = true) = true := decide_eq_true ⟨hk0, decide_eq_true (.inr h3)⟩
          rw [hf]
          have h3b : (0 : Int) < (x.held : Int) := by omega
          clear h hf hN1 hne hpos h0 hk hp hb hx h2
          go_enter Tryz.func99, Tryz.ntmps99
          go_wp2_with (first | (go_at_call 73; refine hnow.mono ?_; rintro e w1 ⟨rfl, hw⟩; subst w1))
          go_ret
          exact ⟨rfl, rfl⟩
        · have hf : decide (0 ≤ (k : Int) ∧ decide (k = N1 ∨ 0 < x.held) = true) = false := decide_eq_false fun e => by
            have := of_decide_eq_true e.2
            omega
          rw [hf]
          have h3b : ¬ (0 : Int) < (x.held : Int) := by omega
          clear h hf hN1 hne hpos h0 hk hp hb hx h2
          go_enter Tryz.func99, Tryz.ntmps99
          go_wp2_with (first | (go_at_call 73; refine hnow.mono ?_; rintro e w1 ⟨rfl, hw⟩; subst w1))
          go_ret
          exact ⟨rfl, rfl⟩
set_option maxRecDepth 100000 in
set_option maxHeartbeats 1000000 in
theorem rkept_any (hne : G ≠ []) (hl : G.length ≤ 1000) : Calls Tryz.prog 74 #[.pointer (some ⟨r, 0, none⟩)] w fun e w' => e = .returned (.int .i64 ((cnt (kept G) G.length : Nat) : Int)) ∧ w = w' := by
  have hk := fun i => rkept1_any h hne hl i
  obtain ⟨g, cap, rfl, _⟩ := h.opened hne
  have hc := h.cell
  obtain ⟨N, hN⟩ : ∃ n, G.length = n := ⟨_, rfl⟩
  rw [hN] at hc hl ⊢
  have hcb : ∀ j, cnt (kept G) j ≤ j := fun j => by
    induction j with
    | zero => exact Nat.le_refl _
    | succ j ih => rw [cnt_succ]; split <;> omega
  have HCB := Lib.hid hcb
  have HK := Lib.hid hk
  clear h hN hne hcb hk
  go_enter Tryz.func74, Tryz.ntmps74
  go_wp2_with fail
  go_loop [3, 4] (fun nv iv => ∃ j : Nat, iv = .int .i64 j ∧ j ≤ N ∧ nv = .int .i64 ((cnt (kept G) j : Nat) : Int)) (fun _ iv => N - (RowKit.intOf iv).toNat)
  case atStart => exact ⟨0, rfl, Nat.zero_le _, rfl⟩
  case round =>
    obtain ⟨j, rfl, hj, rfl⟩ := hrel
    have hs := cnt_succ (kept G) j
    have hb := HCB.out j
    by_cases hjn : (j : Int) < (N : Int)
    · have hk1 := HK.out (j : Int)
      rw [Int.toNat_natCast] at hk1
      cases hkj : kept G j with
      | true =>
        rw [hkj, show decide (0 ≤ (j : Int) ∧ true = true) = true from decide_eq_true ⟨by omega, rfl⟩] at hk1
        rw [hkj, if_pos rfl] at hs
        have HS := Lib.hid hs
        clear hs hkj
        obtain ⟨c, hcc⟩ : ∃ c, cnt (kept G) j = c := ⟨_, rfl⟩
        rw [hcc] at HS hb ⊢
        clear hcc
        go_wp2_with (first | (go_at_call 99; refine hk1.mono ?_; rintro e w1 ⟨rfl, hw⟩; subst w1))
        go_round
        case rel => exact ⟨j + 1, by go_num, by omega, by rw [HS.out]; go_num⟩
        case measure => simp [RowKit.intOf]; omega
      | false =>
        rw [hkj, show decide (0 ≤ (j : Int) ∧ false = true) = false from decide_eq_false (fun e => by cases e.2)] at hk1
        rw [hkj, if_neg (by simp)] at hs
        have HS := Lib.hid hs
        clear hs hkj
        obtain ⟨c, hcc⟩ : ∃ c, cnt (kept G) j = c := ⟨_, rfl⟩
        rw [hcc] at HS hb ⊢
        clear hcc
        go_wp2_with (first | (go_at_call 99; refine hk1.mono ?_; rintro e w1 ⟨rfl, hw⟩; subst w1))
        go_round
        case rel => exact ⟨j + 1, by go_num, by omega, by rw [HS.out]; rfl⟩
        case measure => simp [RowKit.intOf]; omega
    · obtain rfl : j = N := by omega
      go_wp2_with fail
      go_ret
      exact ⟨rfl, rfl⟩
set_option maxRecDepth 100000 in
theorem rof_no (hne : G ≠ []) (hl : G.length ≤ 1000) (i : Int) (hn : ¬ (0 ≤ i ∧ kept G i.toNat = true)) : Calls Tryz.prog 75 #[.pointer (some ⟨r, 0, none⟩), .int .i64 i] w fun e w' => e = .returned (.tuple #[.slice none 0 0, .bool false]) ∧ w = w' := by
  have hk := rkept1_any h hne hl i
  rw [decide_eq_false hn] at hk
  clear h hne hn hl
  go_enter Tryz.func75, Tryz.ntmps75
  go_wp2_with (first | (go_at_call 99; refine hk.mono ?_; rintro e w1 ⟨rfl, hw⟩; subst w1))
  go_ret2
  exact ⟨rfl, rfl⟩
set_option maxRecDepth 100000 in
theorem rof_yes (hl : G.length ≤ 1000) (n : Nat) (x : Gen) (hx : G[n]? = some x) (hn : kept G n = true) : Calls Tryz.prog 75 #[.pointer (some ⟨r, 0, none⟩), .int .i64 (n : Int)] w fun e w' => ∃ u, e = .returned (.tuple #[u, .bool true]) ∧ SliceD w u x.docs ∧ w = w' := by
  have hnl := (List.getElem?_eq_some_iff.1 hx).1
  have hne : G ≠ [] := fun e => by rw [e] at hnl; cases hnl
  have hk := rkept1_any h hne hl (n : Int)
  rw [Int.toNat_natCast, decide_eq_true ⟨by omega, hn⟩] at hk
  obtain ⟨b, d, u, hb, hrv, c0, _, _, _⟩ := h.gen hx
  obtain ⟨g, cap, rfl, hp⟩ := h.opened hne
  have cp := hp n b hb
  have hc := h.cell
  have hd := hrv.cell
  have HS := Lib.hid hrv.slice
  obtain ⟨p, c, rfl⟩ := own_shape hrv.row
  clear h hne hn hp hb hx hrv
  go_enter Tryz.func75, Tryz.ntmps75
  go_wp2_with (first | (go_at_call 99; refine hk.mono ?_; rintro e w1 ⟨rfl, hw⟩; subst w1))
  go_ret2
  exact ⟨_, rfl, HS.out, rfl⟩
set_option maxRecDepth 100000 in
theorem rcame_no (hne : G ≠ []) (hl : G.length ≤ 1000) (i : Int) (hn : ¬ (0 ≤ i ∧ kept G i.toNat = true)) (u : ByteArray) : Calls Tryz.prog 76 #[.pointer (some ⟨r, 0, none⟩), .int .i64 i, .string u] w fun e w' => e = .returned (.tuple #[.int .i64 0, .bool false]) ∧ w = w' := by
  have hk := rkept1_any h hne hl i
  rw [decide_eq_false hn] at hk
  clear h hne hn hl
  go_enter Tryz.func76, Tryz.ntmps76
  go_wp2_with (first | (go_at_call 99; refine hk.mono ?_; rintro e w1 ⟨rfl, hw⟩; subst w1))
  go_ret2
  exact ⟨rfl, rfl⟩
end
/-- where a URI came, seen in the list -/
theorem came_next {G : List Gen} {n : Nat} {g : Gen} (hg : G[n + 1]? = some g) (u : List UInt8) : cameOf G (n + 1) u = if g.uri = u then n + 1 else cameOf G n u := by
  unfold cameOf
  have hl := (List.getElem?_eq_some_iff.1 hg).1
  rw [List.take_add_one, hg]
  simp only [Option.toList_some, List.map_append, List.map_cons, List.map_nil, List.reverse_append, List.reverse_cons, List.reverse_nil, List.nil_append, List.singleton_append]
  rw [cameR]
  simp only [List.length_reverse, List.length_map, List.length_take]
  rw [Nat.min_eq_left (by omega)]
theorem came_spec {G : List Gen} (u : List UInt8) : ∀ n : Nat, n < G.length → 1 ≤ cameOf G n u → cameOf G n u ≤ n ∧ (∃ g, G[cameOf G n u]? = some g ∧ g.uri = u) ∧ ∀ (j : Nat) (g : Gen), cameOf G n u < j → j ≤ n → G[j]? = some g → g.uri ≠ u
  | 0, hn, h => by
    exfalso
    unfold cameOf at h
    match G, hn with
    | g :: t, _ =>
      simp only [Nat.zero_add, List.take_succ_cons, List.take_zero, List.map_cons, List.map_nil, List.reverse_cons, List.reverse_nil, List.nil_append, cameR, List.length_nil] at h
      split at h <;> omega
  | n + 1, hn, h => by
    obtain ⟨g, hg⟩ : ∃ g, G[n + 1]? = some g := ⟨_, List.getElem?_eq_getElem hn⟩
    rw [came_next hg] at h ⊢
    by_cases e : g.uri = u
    · rw [if_pos e]
      exact ⟨Nat.le_refl _, ⟨g, hg, e⟩, fun j x h1 h2 => by omega⟩
    · rw [if_neg e] at h ⊢
      obtain ⟨h1, h2, h3⟩ := came_spec u n (by omega) h
      refine ⟨by omega, h2, fun j x h4 h5 h6 => ?_⟩
      by_cases e2 : j = n + 1
      · subst e2
        rw [hg] at h6
        obtain rfl := Option.some.inj h6
        exact e
      · exact h3 j x h4 (by omega) h6
section
variable {w : World} {r lo : Nat} {v : Value} {Bs : List Nat} {G : List Gen} (h : AV w r lo v Bs G)
include h
set_option maxRecDepth 100000 in
set_option maxHeartbeats 2000000 in
theorem rcame_yes (hl : G.length ≤ 1000) (n : Nat) (x : Gen) (hx : G[n]? = some x) (hn : kept G n = true) (hL : x.docs.length ≤ 1000) (u : ByteArray) (hC : (getD? x.docs u.data.toList).isSome = true → 1 ≤ cameOf G n u.data.toList) :
    Calls Tryz.prog 76 #[.pointer (some ⟨r, 0, none⟩), .int .i64 (n : Int), .string u] w fun e w' => e = .returned (if (getD? x.docs u.data.toList).isSome = true then .tuple #[.int .i64 (cameOf G n u.data.toList : Nat), .bool true] else .tuple #[.int .i64 0, .bool false]) ∧ Below w.heap.size w w' := by
  have hnl := (List.getElem?_eq_some_iff.1 hx).1
  have hne : G ≠ [] := fun e => by rw [e] at hnl; cases hnl
  have hk := rkept1_any h hne hl (n : Int)
  rw [Int.toNat_natCast, decide_eq_true ⟨by omega, hn⟩] at hk
  obtain ⟨b, d, vv, hb, hrv, c0, _, _, _⟩ := h.gen hx
  have hget := refGet_any w d lo vv x.docs hrv u (by omega)
  obtain ⟨D, hD⟩ : ∃ D, (getD? x.docs u.data.toList).getD doc0 = D := ⟨_, rfl⟩
  simp only [hD, docVal] at hget
  obtain ⟨A1, hA1⟩ : ∃ A : ByteArray, (⟨D.uri.toArray⟩ : ByteArray) = A := ⟨_, rfl⟩
  obtain ⟨A2, hA2⟩ : ∃ A : ByteArray, (⟨D.text.toArray⟩ : ByteArray) = A := ⟨_, rfl⟩
  simp only [hA1, hA2] at hget
  generalize D.ver = A3 at *
  have HAV : Hid (∀ w', Below w.heap.size w w' → AV w' r lo v Bs G) := Lib.hid fun w' hb => h.below hb
  obtain ⟨g, cap, rfl, hp⟩ := h.opened hne
  have cp := hp n b hb
  have hc := h.cell
  cases hs : (getD? x.docs u.data.toList).isSome with
  | false =>
    rw [hs] at hget
    rw [if_neg (by simp)]
    clear h hne hn hp hb hx hrv hD hA1 hA2 hs hC
    go_enter Tryz.func76, Tryz.ntmps76
    go_wp2_with (first
      | (go_at_call 99; refine hk.mono ?_; rintro e w1 ⟨rfl, hw⟩; subst w1)
      | (go_at_call 62; refine hget.mono ?_; rintro e w1 ⟨rfl, hb1⟩))
    go_ret2
    exact ⟨rfl, hb1.alloc hb1.size _⟩
  | true =>
    rw [hs] at hget
    rw [if_pos rfl]
    obtain ⟨hcn, hcu, hcx⟩ := came_spec u.data.toList n hnl (hC hs)
    obtain ⟨c, hcc⟩ : ∃ c, cameOf G n u.data.toList = c := ⟨_, rfl⟩
    rw [hcc] at hcn hcu hcx ⊢
    have HCU := Lib.hid hcu
    have HCX := Lib.hid hcx
    clear h hn hp hb hx hrv hD hA1 hA2 hs hC hcu hcx hcc
    have HNE := Lib.hid hne
    clear hne
    go_enter Tryz.func76, Tryz.ntmps76
    go_wp2_with (first
      | (go_at_call 99; refine hk.mono ?_; rintro e w1 ⟨rfl, hw⟩; subst w1)
      | (go_at_call 62; refine hget.mono ?_; rintro e w1 ⟨rfl, hb1⟩))
    have hB1 := hb1.alloc hb1.size (.cells #[.string A1, .string A2, .int .i64 A3] 53)
    obtain ⟨W, hW⟩ : ∃ W, w1.alloc (.cells #[.string A1, .string A2, .int .i64 A3] 53) = W := ⟨_, rfl⟩
    rw [hW] at hB1 ⊢
    have HAW := Lib.hid (HAV.out W hB1)
    clear hW hb1 HAV
    go_loop [1] (fun iv => ∃ j : Nat, iv = .int .i64 j ∧ c ≤ j ∧ j ≤ n) (fun iv => (RowKit.intOf iv).toNat)
    case atStart => exact ⟨n, rfl, hcn, Nat.le_refl _⟩
    case round =>
      obtain ⟨j, rfl, hj1, hj2⟩ := hrel
      obtain ⟨y, hy⟩ : ∃ y, G[j]? = some y := ⟨_, List.getElem?_eq_getElem (by omega)⟩
      obtain ⟨b2, d2, u2, hb2, _, _, _, k2, _⟩ := HAW.out.gen hy
      obtain ⟨g2, cap2, he, hp2⟩ := HAW.out.opened HNE.out
      obtain ⟨rfl, rfl⟩ : g = g2 ∧ cap = cap2 := by cases he; exact ⟨rfl, rfl⟩
      have kp := hp2 j b2 hb2
      have kc := HAW.out.cell
      by_cases hjc : j = c
      · subst hjc
        obtain ⟨z, hz, hzu⟩ := HCU.out
        have e1 : y.uri = u.data.toList := by rw [hy] at hz; obtain rfl := Option.some.inj hz; exact hzu
        have e2 : (⟨y.uri.toArray⟩ : ByteArray) = u := by rw [e1]
        rw [e2] at k2
        have huu : (u.toList == u.toList) = true := by simp
        clear hy hb2 he hp2 hz e1 e2
        go_wp2_with fail
        go_ret2
        exact ⟨rfl, hB1⟩
      · have e1 := HCX.out j y (by omega) hj2 hy
        have e2 := list_ne e1
        obtain ⟨U, hU⟩ : ∃ U : ByteArray, (⟨y.uri.toArray⟩ : ByteArray) = U := ⟨_, rfl⟩
        rw [show (⟨u.data.toList.toArray⟩ : ByteArray) = u from rfl, hU] at e2
        rw [hU] at k2
        have e3 : (U.toList == u.toList) = false := beq_eq_false_iff_ne.2 e2
        have e4 : (U.toList != u.toList) = true := by simp [bne, e3]
        clear hy hb2 he hp2 e1 hU
        go_wp2_with fail
        go_round
        case rel => exact ⟨j - 1, by go_num, by omega, by omega⟩
        case measure => simp [RowKit.intOf]; omega
end
end Go.Proofs.Dc
