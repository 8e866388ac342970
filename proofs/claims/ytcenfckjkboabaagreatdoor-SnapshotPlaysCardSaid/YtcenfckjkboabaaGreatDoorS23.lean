/- The document's generations in memory: what is done to them. -/
import Derived.Test.YtcenfckjkboabaaGreatDoorS22
import Derived.StillTailTactics
import Derived.Deep.RegionHeld3
namespace Go.Proofs.Dc
open Go.RowKit Go.Proofs Go.Lib Go.Maps

/-- the program's generations stay, and what is none of the document's generations -/
structure Keeps (w w' : World) : Prop where
  sv : ∀ (s m lo : Nat) (G : List Gen), SV w s m lo G → SV w' s m lo G
  cl : ∀ (k : Nat) (c : Array Value) (t : TypeId) (f : Nat × Nat), w.heap[k]? = some (.cells c t f) → t ≠ 104 → t ≠ 106 → t ≠ 109 → w'.heap[k]? = some (.cells c t f)
theorem Keeps.refl (w : World) : Keeps w w := ⟨fun _ _ _ _ h => h, fun _ _ _ _ h _ _ _ => h⟩
theorem Keeps.trans {w w1 w2 : World} (h : Keeps w w1) (g : Keeps w1 w2) : Keeps w w2 := ⟨fun s m lo G x => g.sv s m lo G (h.sv s m lo G x), fun k c t f x a b d => g.cl k c t f (h.cl k c t f x a b d) a b d⟩
theorem Keeps.below {w w' : World} (hb : Below w.heap.size w w') : Keeps w w' := ⟨fun _ _ _ _ h => h.below hb, fun k c t f e _ _ _ => below_cells hb k c t f e⟩
theorem keeps_grown {w w' : World} {k : Nat} {c : Array Value} {t : TypeId} {f : Nat × Nat} (hg : w.grownBy w' (some k)) (hk : w.heap[k]? = some (.cells c t f)) (ht : t = 104 ∨ t = 106 ∨ t = 109) : Keeps w w' := by
  have h72 : (72 : TypeId) ≠ t := by rcases ht with rfl | rfl | rfl <;> decide
  have h103 : (103 : TypeId) ≠ t := by rcases ht with rfl | rfl | rfl <;> decide
  have h83 : t ≠ 83 := by rcases ht with rfl | rfl | rfl <;> decide
  refine ⟨fun s m lo G ⟨hne, BB, D, q⟩ => ⟨hne, BB, D, ⟨(hg.block s q.lt.1 (fun e => ne_types q.hd hk h72 (Option.some.inj e))).trans q.hd, q.slo, q.mlo, q.mp.kept hg (fun e => ne_map q.mp hk (Option.some.inj e)), q.siz, q.has, q.inj, fun j hj => ?_⟩⟩, fun j c' t' f' e a b d => (hg.block j (Array.getElem?_eq_some_iff.1 e).1 (fun e2 => ne_types e hk (fun e3 => ?_) (Option.some.inj e2))).trans e⟩
  · obtain ⟨a1, a2, ⟨ge⟩⟩ := q.el j hj
    exact ⟨a1, a2, ⟨ge.keep hg hk h83 (ne_types ge.hd hk h103)⟩⟩
  · subst e3
    rcases ht with e | e | e
    · exact a e
    · exact b e
    · exact d e
theorem info104 : (Tryz.prog.info? 104).map (fun i => (i.zero, i.size, i.bytes)) = some (some (.pointer none), 1, 8) := by kernel_rfl
theorem cell_blk {w : World} {b o : Nat} {x : Value} (h : w.cell? ⟨b, o, none⟩ = some x) : b < w.heap.size := by
  by_cases hb : b < w.heap.size
  · exact hb
  · exfalso
    have : w.heap[b]? = none := Array.getElem?_eq_none (by omega)
    simp [World.cell?, this] at h
theorem alloc_at (w : World) (o : Obj) : (w.alloc o).heap[w.heap.size]? = some o := World.alloc_heap_new w o
theorem alloc_old {w : World} {k : Nat} {x : Obj} (o : Obj) (h : w.heap[k]? = some x) : (w.alloc o).heap[k]? = some x :=
  (((Below.refl w.heap.size w).alloc (Nat.le_refl _) o).block k (Array.getElem?_eq_some_iff.1 h).1).trans h
theorem alloc_len (w : World) (o : Obj) : (w.alloc o).heap.size = w.heap.size + 1 := by simp
set_option maxRecDepth 100000 in
set_option maxHeartbeats 1000000 in
theorem rmade_any (w : World) : Calls Tryz.prog 26 #[] w fun e w' => ∃ r v Bs, e = .returned (.pointer (some ⟨r, 0, none⟩)) ∧ AV w' r w.heap.size v Bs G0 ∧ Below w.heap.size w w' := by
  obtain ⟨W1, hW1⟩ : ∃ W, w.alloc (.cells #[.slice none 0 0] 30) = W := ⟨_, rfl⟩
  obtain ⟨W2, hW2⟩ : ∃ W, W1.alloc (.cells #[.pointer (some ⟨w.heap.size, 0, none⟩), .int .i64 0, .string ⟨#[]⟩] 106) = W := ⟨_, rfl⟩
  obtain ⟨W3, hW3⟩ : ∃ W, W2.alloc (.cells #[.pointer (some ⟨w.heap.size + 1, 0, none⟩)] 104) = W := ⟨_, rfl⟩
  obtain ⟨W4, hW4⟩ : ∃ W, W3.alloc (.cells #[.slice (some ⟨w.heap.size + 2, 0, none⟩) 1 1] 109) = W := ⟨_, rfl⟩
  have z1 : W1.heap.size = w.heap.size + 1 := by rw [← hW1, alloc_len]
  have z2 : W2.heap.size = w.heap.size + 2 := by rw [← hW2, alloc_len, z1]
  have z3 : W3.heap.size = w.heap.size + 3 := by rw [← hW3, alloc_len, z2]
  have a1 : W1.heap[w.heap.size]? = some (.cells #[.slice none 0 0] 30) := by rw [← hW1]; exact alloc_at _ _
  have a2 : W2.heap[w.heap.size + 1]? = some (.cells #[.pointer (some ⟨w.heap.size, 0, none⟩), .int .i64 0, .string ⟨#[]⟩] 106) := by rw [← hW2, ← z1]; exact alloc_at _ _
  have a3 : W3.heap[w.heap.size + 2]? = some (.cells #[.pointer (some ⟨w.heap.size + 1, 0, none⟩)] 104) := by rw [← hW3, ← z2]; exact alloc_at _ _
  have a4 : W4.heap[w.heap.size + 3]? = some (.cells #[.slice (some ⟨w.heap.size + 2, 0, none⟩) 1 1] 109) := by rw [← hW4, ← z3]; exact alloc_at _ _
  have b3 : W4.heap[w.heap.size + 2]? = some (.cells #[.pointer (some ⟨w.heap.size + 1, 0, none⟩)] 104) := by rw [← hW4]; exact alloc_old _ a3
  have b2 : W4.heap[w.heap.size + 1]? = some (.cells #[.pointer (some ⟨w.heap.size, 0, none⟩), .int .i64 0, .string ⟨#[]⟩] 106) := by rw [← hW4]; exact alloc_old _ (by rw [← hW3]; exact alloc_old _ a2)
  have b1 : W4.heap[w.heap.size]? = some (.cells #[.slice none 0 0] 30) := by rw [← hW4]; exact alloc_old _ (by rw [← hW3]; exact alloc_old _ (by rw [← hW2]; exact alloc_old _ a1))
  have hel : ∀ (n : Nat) (g : Gen) (b : Nat), G0[n]? = some g → [w.heap.size + 1][n]? = some b → Nonempty (RGen W4 w.heap.size b g) := fun n g b h1 h2 => by
    match n, h1, h2 with
    | 0, h1, h2 =>
      obtain rfl := Option.some.inj h1
      obtain rfl := Option.some.inj h2
      exact ⟨⟨w.heap.size, .slice none 0 0, b2, ⟨b1, World.ownsRow_nil _ _ _ _, Nat.le_refl _⟩, by omega⟩⟩
    | n + 1, h1, _ => cases h1
  have hinj : ∀ (i j b : Nat), [w.heap.size + 1][i]? = some b → [w.heap.size + 1][j]? = some b → i = j := fun i j b h1 h2 => by
    match i, j, h1, h2 with
    | 0, 0, _, _ => rfl
    | 0, j + 1, _, h2 => cases h2
    | i + 1, _, h1, _ => cases h1
  have hav : AV W4 (w.heap.size + 3) w.heap.size (.slice (some ⟨w.heap.size + 2, 0, none⟩) 1 1) [w.heap.size + 1] G0 :=
    ⟨a4, by omega, ⟨rfl, .inr ⟨_, 1, _, rfl, by omega, b3, Nat.le_refl _, by unfold maxLen; omega, rfl, rfl⟩⟩, rfl, hel, hinj⟩
  have hbf : Below w.heap.size w W4 := by
    rw [← hW4, ← hW3, ← hW2, ← hW1]
    exact ((((Below.refl _ _).alloc (Nat.le_refl _) _).alloc (by simp) _).alloc (by simp; omega) _).alloc (by simp; omega) _
  have HA := Lib.hid hav
  have HB := Lib.hid hbf
  rw [← hW4, ← hW3, ← hW2, ← hW1] at HA HB
  clear hav hbf hel hinj a1 a2 a3 a4 b1 b2 b3 z1 z2 z3 hW1 hW2 hW3 hW4
  go_enter Tryz.func26, Tryz.ntmps26
  go_wp2
  go_ret
  exact ⟨_, _, _, rfl, HA.out, HB.out⟩
section
variable {w : World} {r lo : Nat} {v : Value} {Bs : List Nat} {G : List Gen} (h : AV w r lo v Bs G)
include h
/-- one is held, or let go -/
theorem AV.setHeld {n b : Nat} {g : Gen} (hG : G[n]? = some g) (hb : Bs[n]? = some b) (x : Nat) :
    AV (w.setCell ⟨b, 1, none⟩ (.int .i64 (x : Int))) r lo v Bs (G.set n { g with held := x }) ∧ Keeps w (w.setCell ⟨b, 1, none⟩ (.int .i64 (x : Int))) ∧ w.grownBy (w.setCell ⟨b, 1, none⟩ (.int .i64 (x : Int))) (some b) ∧ lo ≤ b := by
  obtain ⟨gn⟩ := h.el n g b hG hb
  have hg := grown_set (j := 1) (.int .i64 (x : Int)) gn.hd
  have hkc : ∀ (k : Nat) (c : Array Value) (t : TypeId) (f : Nat × Nat), w.heap[k]? = some (.cells c t f) → k ≠ b → (w.setCell ⟨b, 1, none⟩ (.int .i64 (x : Int))).heap[k]? = some (.cells c t f) := fun k c t f e hk => (hg.block k (Array.getElem?_eq_some_iff.1 e).1 (fun e2 => hk (Option.some.inj e2))).trans e
  have hkt : ∀ (k : Nat) (c : Array Value) (t : TypeId) (f : Nat × Nat), w.heap[k]? = some (.cells c t f) → t ≠ 106 → (w.setCell ⟨b, 1, none⟩ (.int .i64 (x : Int))).heap[k]? = some (.cells c t f) := fun k c t f e ht => hkc k c t f e (ne_types e gn.hd ht)
  refine ⟨⟨hkt _ _ _ _ h.hd (by decide), h.lor, ?_, by rw [List.length_set]; exact h.len, fun i y b' h1 h2 => ?_, h.inj⟩, keeps_grown hg gn.hd (.inr (.inl rfl)), hg, gn.lob⟩
  · rw [List.length_set]
    exact own_cells h.row fun k c f e => hkt k c 104 f e (by decide)
  · by_cases e : i = n
    · subst e
      rw [hb] at h2
      obtain rfl := Option.some.inj h2
      rw [List.getElem?_set_self (List.getElem?_eq_some_iff.1 hG).1] at h1
      obtain rfl := Option.some.inj h1
      refine ⟨⟨gn.d, gn.v, set_row (j := 1) (.int .i64 (x : Int)) gn.hd, gn.rv.cells fun k c t f e ht => hkt k c t f e (by rcases ht with rfl | rfl <;> decide), gn.lob⟩⟩
    · rw [List.getElem?_set_ne (fun e2 => e e2.symm)] at h1
      obtain ⟨x'⟩ := h.el i y b' h1 h2
      exact ⟨⟨x'.d, x'.v, hkc _ _ _ _ x'.hd (fun e2 => e (h.inj i n b' h2 (by rw [e2]; exact hb))), x'.rv.cells fun k c t f e ht => hkt k c t f e (by rcases ht with rfl | rfl <;> decide), x'.lob⟩⟩
/-- one more -/
theorem AV.add {d : Nat} {vd : Value} {L : List Doc} (hr : RV w d lo vd L) (u : ByteArray) (hG : G.length ≤ 1000) :
    ∃ (v' : Value) (w' : World), (∀ ty, (Builtin.append_ #[107, 107] ty #[v, .slice (some ⟨w.heap.size + 1, 0, none⟩) 1 1]).run Tryz.prog ((w.alloc (.cells #[.pointer (some ⟨d, 0, none⟩), .int .i64 0, .string u] 106)).alloc (.cells #[.pointer (some ⟨w.heap.size, 0, none⟩)] 104)) = .ok v' w') ∧
      w'.cell? ⟨r, 0, none⟩ = some v ∧ w'.frozen? ⟨r, 0, none⟩ = false ∧ (∃ g c, v' = .slice (some ⟨g, 0, none⟩) (G.length + 1) c) ∧
      AV (w'.setCell ⟨r, 0, none⟩ v') r lo v' (Bs ++ [w.heap.size]) (addG G L u.data.toList) ∧ Keeps w (w'.setCell ⟨r, 0, none⟩ v') ∧ Below lo w (w'.setCell ⟨r, 0, none⟩ v') := by
  obtain ⟨i0, hi, hz0, hz1, hz2⟩ := infoP info104
  obtain ⟨W1, hW1⟩ : ∃ W, w.alloc (.cells #[.pointer (some ⟨d, 0, none⟩), .int .i64 0, .string u] 106) = W := ⟨_, rfl⟩
  obtain ⟨W2, hW2⟩ : ∃ W, W1.alloc (.cells #[.pointer (some ⟨w.heap.size, 0, none⟩)] 104) = W := ⟨_, rfl⟩
  rw [hW1, hW2]
  have hlw : lo ≤ w.heap.size := Nat.le_trans h.lor (Nat.le_of_lt h.lt)
  have z1 : W1.heap.size = w.heap.size + 1 := by rw [← hW1, alloc_len]
  have a1 : W1.heap[w.heap.size]? = some (.cells #[.pointer (some ⟨d, 0, none⟩), .int .i64 0, .string u] 106) := by rw [← hW1]; exact alloc_at _ _
  have a2 : W2.heap[w.heap.size + 1]? = some (.cells #[.pointer (some ⟨w.heap.size, 0, none⟩)] 104) := by rw [← hW2, ← z1]; exact alloc_at _ _
  have b1 : W2.heap[w.heap.size]? = some (.cells #[.pointer (some ⟨d, 0, none⟩), .int .i64 0, .string u] 106) := by rw [← hW2]; exact alloc_old _ a1
  have hb2 : Below w.heap.size w W2 := by
    rw [← hW2, ← hW1]
    exact ((Below.refl _ _).alloc (Nat.le_refl _) _).alloc (by simp) _
  have h2 := h.below hb2
  have hr2 := hr.below hb2
  have happ := run_append_own (P := Tryz.prog) W2 lo 107 107 104 i0 _ 1 8 Tryz.underlying107 hi hz0 hz1 hz2 rfl (by decide) _ _ _ h2.row ⟨w.heap.size + 1, 0, none⟩ 1 1 [.pointer (some ⟨w.heap.size, 0, none⟩)] rfl (fun j x hx => by
    match j, hx with
    | 0, hx =>
      obtain rfl := Option.some.inj hx
      simp [World.cell?, Addr.add, a2]
    | j + 1, hx => cases hx) (by intro x hx; simp at hx; subst hx; rfl) (by unfold maxLen; omega) (by omega) (Nat.le_trans hlw hb2.size)
  obtain ⟨v', w', hrun, hown, hg, hnew⟩ := happ
  have hrr : ∀ (k : Nat) (c : Array Value) (t : TypeId) (f : Nat × Nat), W2.heap[k]? = some (.cells c t f) → t ≠ 104 → w'.heap[k]? = some (.cells c t f) := fun k c t f e ht => by
    rcases h2.row.2 with ⟨e2, _⟩ | ⟨g, cap, cur, e2, _, h3, _⟩
    · rw [e2] at hg
      exact (hg.block k (Array.getElem?_eq_some_iff.1 e).1 (by simp [Value.ownBlock])).trans e
    · rw [e2] at hg
      exact (hg.block k (Array.getElem?_eq_some_iff.1 e).1 (fun e3 => ne_types e h3 ht (by simpa [Value.ownBlock] using e3))).trans e
  have hkeep : Keeps W2 w' := by
    rcases h2.row.2 with ⟨e2, _⟩ | ⟨g, cap, cur, e2, _, h3, _⟩
    · rw [e2] at hg
      exact Keeps.below ⟨hg.os, hg.tape, hg.output, hg.size, fun j hj => hg.block j hj (by simp [Value.ownBlock])⟩
    · rw [e2] at hg
      exact keeps_grown (k := g) (by simpa [Value.ownBlock] using hg) h3 (.inl rfl)
  have hd' := hrr _ _ _ _ h2.hd (by decide)
  have hgb := grown_box v' hd'
  have hkc : ∀ (k : Nat) (c : Array Value) (t : TypeId) (f : Nat × Nat), W2.heap[k]? = some (.cells c t f) → t ≠ 104 → t ≠ 109 → (w'.setCell ⟨r, 0, none⟩ v').heap[k]? = some (.cells c t f) := fun k c t f e ht1 ht2 =>
    (hgb.block k (Array.getElem?_eq_some_iff.1 (hrr k c t f e ht1)).1 (fun e2 => ne_types (hrr k c t f e ht1) hd' ht2 (Option.some.inj e2))).trans (hrr k c t f e ht1)
  have hbw : Below lo w w' := (hb2.mono hlw).grown hg (Nat.le_trans hlw hb2.size) (fun z hz => (h2.row.lt z hz).1)
  have hlen : (addG G L u.data.toList).length = G.length + 1 := by simp [addG]
  refine ⟨v', w', fun ty => hrun, by simp [World.cell?, hd'], by simp [World.frozen?, hd'], ?_, ⟨set_box v' hd', h.lor, ?_, by simp [addG, h.len], fun n g b h1 h3 => ?_, fun i j b h1 h3 => ?_⟩, (Keeps.below hb2).trans (hkeep.trans (keeps_grown hgb hd' (.inr (.inr rfl)))), hbw.grown hgb (Nat.le_trans hlw (Nat.le_trans hb2.size hg.size)) (fun q hq => by cases hq; exact h.lor)⟩
  · rcases hown.2 with ⟨_, h0⟩ | ⟨g, cap, cur, e, _⟩
    · omega
    · exact ⟨g, cap, e⟩
  · rw [hlen]
    have e : ptrs (Bs ++ [w.heap.size]) = ptrs Bs ++ [.pointer (some ⟨w.heap.size, 0, none⟩)] := by simp [ptrs]
    rw [e]
    exact own_cells hown fun k c f e => (hgb.block k (Array.getElem?_eq_some_iff.1 e).1 (fun e2 => ne_types e hd' (by decide) (Option.some.inj e2))).trans e
  · unfold addG at h1
    by_cases hn : n < G.length
    · rw [List.getElem?_append_left hn] at h1
      rw [List.getElem?_append_left (by rw [h.len]; exact hn)] at h3
      obtain ⟨x⟩ := h2.el n g b h1 h3
      exact ⟨⟨x.d, x.v, hkc _ _ _ _ x.hd (by decide) (by decide), x.rv.cells fun k c t f e ht => hkc k c t f e (by rcases ht with rfl | rfl <;> decide) (by rcases ht with rfl | rfl <;> decide), x.lob⟩⟩
    · have hn2 : n = G.length := by
        have := (List.getElem?_eq_some_iff.1 h1).1
        simp at this
        omega
      subst hn2
      have e1 : g = ⟨L, 0, u.data.toList⟩ := by simpa using h1.symm
      have e2 : b = w.heap.size := by
        rw [List.getElem?_append_right (by rw [h.len]; exact Nat.le_refl _)] at h3
        simpa [h.len] using h3.symm
      subst e1 e2
      exact ⟨⟨d, vd, hkc _ _ _ _ b1 (by decide) (by decide), hr2.cells fun k c t f e ht => hkc k c t f e (by rcases ht with rfl | rfl <;> decide) (by rcases ht with rfl | rfl <;> decide), hlw⟩⟩
  · have hlt : ∀ (i b : Nat), Bs[i]? = some b → b < w.heap.size := fun i b hb => by
      obtain ⟨g, hg⟩ : ∃ g, G[i]? = some g := ⟨_, List.getElem?_eq_getElem (by rw [← h.len]; exact (List.getElem?_eq_some_iff.1 hb).1)⟩
      obtain ⟨x⟩ := h.el i g b hg hb
      exact (Array.getElem?_eq_some_iff.1 x.hd).1
    by_cases hi' : i < Bs.length <;> by_cases hj' : j < Bs.length
    · rw [List.getElem?_append_left hi'] at h1
      rw [List.getElem?_append_left hj'] at h3
      exact h.inj i j b h1 h3
    · rw [List.getElem?_append_left hi'] at h1
      rw [List.getElem?_append_right (by omega)] at h3
      have e := List.mem_of_getElem? h3
      rw [List.mem_singleton] at e
      have := hlt i b h1
      omega
    · rw [List.getElem?_append_right (by omega)] at h1
      rw [List.getElem?_append_left hj'] at h3
      have e := List.mem_of_getElem? h1
      rw [List.mem_singleton] at e
      have := hlt j b h3
      omega
    · have e1 := (List.getElem?_eq_some_iff.1 h1).1
      have e2 := (List.getElem?_eq_some_iff.1 h3).1
      simp at e1 e2
      omega
set_option maxRecDepth 100000 in
set_option maxHeartbeats 2000000 in
theorem rhold_any (hne : G ≠ []) (hl : G.length ≤ 1000) (hh : ∀ g ∈ G, g.held ≤ 1000000) :
    Calls Tryz.prog 71 #[.pointer (some ⟨r, 0, none⟩)] w fun e w' => e = .returned (.int .i64 ((G.length - 1 : Nat) : Int)) ∧ AV w' r lo v Bs (holdG G) ∧ Keeps w w' ∧ Below lo w w' := by
  have hpos : 0 < G.length := List.length_pos_iff.2 hne
  have hlw : lo ≤ w.heap.size := Nat.le_trans h.lor (Nat.le_of_lt h.lt)
  obtain ⟨N1, hN1⟩ : ∃ n, G.length - 1 = n := ⟨_, rfl⟩
  obtain ⟨x, hx⟩ : ∃ x, G[N1]? = some x := ⟨_, List.getElem?_eq_getElem (by omega)⟩
  have hheld := hh x (List.mem_of_getElem? hx)
  have hhold : holdG G = G.set N1 { x with held := x.held + 1 } := by unfold holdG; rw [hN1, hx]
  rw [hhold, hN1]
  obtain ⟨b, d, u, hb, _, _, _, _, _⟩ := h.gen hx
  have hs := (h.below ((Below.refl w.heap.size w).drew)).setHeld hx hb (x.held + 1)
  simp only [Int.natCast_add, Int.natCast_one] at hs
  have hnow := rnow_any (h.below ((Below.refl w.heap.size w).drew)) hne hl
  have hnow2 := rnow_any hs.1 (fun e => by have := congrArg List.length e; simp at this; exact hne this) (by rw [List.length_set]; exact hl)
  rw [hN1] at hnow
  rw [List.length_set, hN1] at hnow2
  have hD : Below lo w w.drew := (Below.refl lo w).drew
  have hKD : Keeps w w.drew := Keeps.below ((Below.refl _ _).drew)
  obtain ⟨g, cap, rfl, hp⟩ := (h.below ((Below.refl w.heap.size w).drew)).opened hne
  obtain ⟨b2, _, _, hb', _, _, c1, _, _⟩ := (h.below ((Below.refl w.heap.size w).drew)).gen hx
  rw [hb] at hb'
  obtain rfl := Option.some.inj hb'
  have hfr : w.drew.frozen? ⟨b, 1, none⟩ = false := by
    obtain ⟨y⟩ := (h.below ((Below.refl w.heap.size w).drew)).el N1 x b hx hb
    simp [World.frozen?, y.hd]
  have cp := hp N1 b hb
  have hc := (h.below ((Below.refl w.heap.size w).drew)).cell
  have q1 : IntKind.i64.wrap ((x.held : Int) + 1) = (x.held : Int) + 1 := IntWalk.i64_in _ (by omega)
  have hNl : N1 < G.length := by omega
  have hc0 := h.cell
  have cp0 : w.cell? ⟨g, N1, none⟩ = some (.pointer (some ⟨b, 0, none⟩)) := cp
  have hnow0 := rnow_any h hne hl
  rw [hN1] at hnow0
  have HS := Lib.hid hs
  have HD := Lib.hid hD
  have HKD := Lib.hid hKD
  have HLW := Lib.hid hlw
  clear h hne hh hN1 hx hhold hb hs hD hKD hp hpos hlw
  go_enter Tryz.func71, Tryz.ntmps71
  go_wp2_with fail
  go_region_held3 (fun v => v.cell? ⟨r, 0, none⟩ = some (.slice (some ⟨g, 0, none⟩) G.length cap) ∧ v.cell? ⟨g, N1, none⟩ = some (.pointer (some ⟨b, 0, none⟩))) (first | exact ⟨hc, cp⟩) (first
    | (go_at_call 73; refine hnow.mono ?_; rintro e w1 ⟨rfl, hw⟩; subst w1))
  generalize w.drew = wd at *
  go_wp2_with (first
    | (go_at_call 73; refine hnow2.mono ?_; rintro e w1 ⟨rfl, hw⟩; subst w1))
  go_ret
  obtain ⟨h1, h2, h3, h4⟩ := HS.out
  exact ⟨rfl, h1, HKD.out.trans h2, HD.out.grown h3 (Nat.le_trans HLW.out HD.out.size) (fun q hq => by cases hq; exact h4)⟩
set_option maxRecDepth 100000 in
set_option maxHeartbeats 2000000 in
theorem rfree_any (hne : G ≠ []) (hl : G.length ≤ 1000) (hh : ∀ g ∈ G, g.held ≤ 1000000) (i : Int) :
    Calls Tryz.prog 72 #[.pointer (some ⟨r, 0, none⟩), .int .i64 i] w fun e w' => e = .returned (.int .i64 (freeE G i)) ∧ AV w' r lo v Bs (freeG G i) ∧ Keeps w w' ∧ Below lo w w' := by
  have hpos : 0 < G.length := List.length_pos_iff.2 hne
  have hlw : lo ≤ w.heap.size := Nat.le_trans h.lor (Nat.le_of_lt h.lt)
  have hnow := rnow_any h hne hl
  obtain ⟨N1, hN1⟩ : ∃ n, G.length - 1 = n := ⟨_, rfl⟩
  rw [hN1] at hnow
  by_cases h0 : i < 0
  · have hE : freeE G i = 5 ∧ freeG G i = G := by unfold freeE freeG; rw [if_neg (by omega), if_neg (by omega)]; exact ⟨rfl, rfl⟩
    rw [hE.1, hE.2]
    have H := Lib.hid h
    clear h hE hN1 hne hpos hh
    go_enter Tryz.func72, Tryz.ntmps72
    go_wp2_with (first | (go_at_call 73; refine hnow.mono ?_; rintro e w1 ⟨rfl, hw⟩; subst w1))
    go_ret
    exact ⟨rfl, H.out, Keeps.refl _, Below.refl _ _⟩
  · obtain ⟨k, rfl⟩ : ∃ k : Nat, i = k := ⟨i.toNat, by omega⟩
    have hk0 : 0 ≤ (k : Int) := by omega
    by_cases h1 : (N1 : Int) < (k : Int)
    · have hE : freeE G (k : Int) = 5 ∧ freeG G (k : Int) = G := by
        unfold freeE freeG
        rw [if_pos hk0, if_pos hk0, Int.toNat_natCast, List.getElem?_eq_none (by omega)]
        exact ⟨rfl, rfl⟩
      rw [hE.1, hE.2]
      have H := Lib.hid h
      clear h hE hN1 hne hpos hh h0
      go_enter Tryz.func72, Tryz.ntmps72
      go_wp2_with (first | (go_at_call 73; refine hnow.mono ?_; rintro e w1 ⟨rfl, hw⟩; subst w1))
      go_ret
      exact ⟨rfl, H.out, Keeps.refl _, Below.refl _ _⟩
    · obtain ⟨x, hx⟩ : ∃ x, G[k]? = some x := ⟨_, List.getElem?_eq_getElem (by omega)⟩
      have hheld := hh x (List.mem_of_getElem? hx)
      obtain ⟨b, d, u, hb, _, _, c1, _, _⟩ := h.gen hx
      have hE : freeE G (k : Int) = if 0 < x.held then 0 else 5 := by unfold freeE; rw [if_pos hk0, Int.toNat_natCast, hx]
      have hF : freeG G (k : Int) = if 0 < x.held then G.set k { x with held := x.held - 1 } else G := by unfold freeG; rw [if_pos hk0, Int.toNat_natCast, hx]
      rw [hE, hF]
      have hkl : k < G.length := by omega
      obtain ⟨g, cap, rfl, hp⟩ := h.opened hne
      have cp := hp k b hb
      have hc := h.cell
      by_cases hz : x.held = 0
      · rw [if_neg (by omega), if_neg (by omega)]
        rw [hz] at c1
        have H := Lib.hid h
        clear h hE hF hN1 hne hpos hh h0 hx hb hp hheld hz
        go_enter Tryz.func72, Tryz.ntmps72
        go_wp2_with (first | (go_at_call 73; refine hnow.mono ?_; rintro e w1 ⟨rfl, hw⟩; subst w1))
        go_ret
        exact ⟨rfl, H.out, Keeps.refl _, Below.refl _ _⟩
      · rw [if_pos (by omega), if_pos (by omega)]
        obtain ⟨y, hy⟩ : ∃ y, x.held = y + 1 := ⟨x.held - 1, by omega⟩
        have hs := (h.below ((Below.refl w.heap.size w).drew)).setHeld hx hb y
        rw [hy] at c1 hheld ⊢
        simp only [Nat.add_sub_cancel]
        have q1 : IntKind.i64.wrap ((y : Int) + 1 - 1) = (y : Int) := by
          rw [show (y : Int) + 1 - 1 = (y : Int) by omega]
          exact IntWalk.i64_in _ (by omega)
        have hz1 : ((y : Int) + 1 == 0) = false := beq_eq_false_iff_ne.2 (by omega)
        have h0n : decide ((k : Int) < 0) = false := decide_eq_false (by omega)
        have h1n : decide (N1 < k) = false := decide_eq_false (by omega)
        have hfr : w.drew.frozen? ⟨b, 1, none⟩ = false := by
          obtain ⟨yy⟩ := (h.below ((Below.refl w.heap.size w).drew)).el k x b hx hb
          simp [World.frozen?, yy.hd]
        rw [show ((y + 1 : Nat) : Int) = (y : Int) + 1 by omega] at c1
        have c1d : w.drew.cell? ⟨b, 1, none⟩ = some (.int .i64 ((y : Int) + 1)) := c1
        have HS := Lib.hid hs
        have HD : Hid (Below lo w w.drew) := Lib.hid ((Below.refl lo w).drew)
        have HKD : Hid (Keeps w w.drew) := Lib.hid (Keeps.below ((Below.refl _ _).drew))
        clear h hE hF hN1 hne hpos hh h0 hx hb hp hy hs hz
        go_enter Tryz.func72, Tryz.ntmps72
        go_upto_region 3 with (first | (go_at_call 73; refine hnow.mono ?_; rintro e w1 ⟨rfl, hw⟩; subst w1))
        go_still_tail 20, (by kernel_rfl)
        change wpList _ _ _ _ _ w.drew
        clear c1 hc cp hnow
        generalize w.drew = wd at *
        go_wp2_with fail
        go_ret
        obtain ⟨h1, h2, h3, h4⟩ := HS.out
        exact ⟨rfl, h1, HKD.out.trans h2, HD.out.grown h3 (Nat.le_trans hlw HD.out.size) (fun q hq => by cases hq; exact h4)⟩
set_option maxRecDepth 100000 in
set_option maxHeartbeats 2000000 in
theorem rlast_any (hne : G ≠ []) (hl : G.length ≤ 1000) (x : Gen) (hx : G[G.length - 1]? = some x) (hL : x.docs.length ≤ 1000) :
    Calls Tryz.prog 97 #[.pointer (some ⟨r, 0, none⟩)] w fun e w' => ∃ d vd, e = .returned (.pointer (some ⟨d, 0, none⟩)) ∧ RV w' d w.heap.size vd x.docs ∧ Below w.heap.size w w' := by
  obtain ⟨N1, hN1⟩ : ∃ n, G.length - 1 = n := ⟨_, rfl⟩
  rw [hN1] at hx
  have hpos : 0 < G.length := List.length_pos_iff.2 hne
  have hd := h.below ((Below.refl w.heap.size w).drew)
  have hnow := rnow_any hd hne hl
  rw [hN1] at hnow
  obtain ⟨b, d, u, hb, hrv, c0, _, _, _⟩ := hd.gen hx
  have hcopy := refCopy_any w.drew d lo u x.docs hrv hL
  obtain ⟨g, cap, rfl, hp⟩ := hd.opened hne
  have cp := hp N1 b hb
  have hc := hd.cell
  have hNl : N1 < G.length := by omega
  have hz : w.drew.heap.size = w.heap.size := rfl
  rw [hz] at hcopy
  have HD : Hid (Below w.heap.size w w.drew) := Lib.hid ((Below.refl _ w).drew)
  have hl1 := cell_blk hc
  have hl2 := cell_blk cp
  have hl3 := cell_blk c0
  clear h hd hne hN1 hx hb hp hpos hrv hL hz
  go_enter Tryz.func97, Tryz.ntmps97
  go_wp2_with fail
  go_region_held3 (fun v => v.cell? ⟨r, 0, none⟩ = some (.slice (some ⟨g, 0, none⟩) G.length cap) ∧ v.cell? ⟨g, N1, none⟩ = some (.pointer (some ⟨b, 0, none⟩)) ∧ v.cell? ⟨b, 0, none⟩ = some (.pointer (some ⟨d, 0, none⟩))) (first | exact ⟨hc, cp, c0⟩ | exact ⟨f1, f2, f3⟩) (first
    | (go_at_call 73; refine hnow.mono ?_; rintro e w1 ⟨rfl, hw⟩; subst w1)
    | (go_at_call 17; refine hcopy.mono ?_; rintro e w1 ⟨d2, v2, rfl, hr2, hb2⟩; have f1 := (hb2.cell (p := ⟨r, 0, none⟩) hl1).trans hc; have f2 := (hb2.cell (p := ⟨g, N1, none⟩) hl2).trans cp; have f3 := (hb2.cell (p := ⟨b, 0, none⟩) hl3).trans c0))
  go_wp2_with fail
  go_ret
  exact ⟨_, _, rfl, hr2, HD.out.trans hb2⟩
end
end Go.Proofs.Dc
