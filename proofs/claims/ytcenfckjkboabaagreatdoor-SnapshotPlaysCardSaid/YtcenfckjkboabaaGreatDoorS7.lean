/- Where documents came: what an act changes of it; closures. -/
import Derived.Test.YtcenfckjkboabaaGreatDoorS6
namespace Go.Proofs.Dc
open Go.RowKit Go.Proofs Go.Lib Go.Maps

/-- documents that differ in one URI alone -/
structure OneU (L L' : List Doc) (u : List UInt8) : Prop where
  same : ∀ x, x ≠ u → getD? L' x = getD? L x
  len : L'.length + (if (getD? L u).isSome = true then 1 else 0) = L.length + (if (getD? L' u).isSome = true then 1 else 0)
theorem length_without {L : List Doc} (hO : Ord L) (u : List UInt8) : (without u L).length + (if (getD? L u).isSome = true then 1 else 0) = L.length := by
  cases hg : getD? L u with
  | none => rw [without_none hg]; rfl
  | some d =>
    rcases at_get L u with ⟨h1, _⟩ | ⟨k, d2, h1, hu, h3, _, _⟩
    · rw [h1] at hg; cases hg
    · rw [without_at hO h1 hu]
      have := (List.getElem?_eq_some_iff.1 h1).1
      rw [List.length_append, List.length_take, List.length_drop]
      simp only [Option.isSome_some, if_pos]
      omega
theorem get_without (L : List Doc) (u : List UInt8) : getD? (without u L) u = none := by
  unfold getD? without
  rw [List.find?_eq_none]
  intro d hd
  have := (List.mem_filter.1 hd).2
  simpa using this
theorem get_without_other (L : List Doc) {u x : List UInt8} (h : x ≠ u) : getD? (without u L) x = getD? L x := by
  unfold getD? without
  rw [List.find?_filter]
  congr 1
  funext p
  by_cases hp : p.uri = x
  · subst hp; simp [h]
  · simp [hp]
theorem one_close {L : List Doc} (hO : Ord L) (u : List UInt8) : OneU L (without u L) u :=
  ⟨fun x hx => get_without_other L hx, by rw [get_without]; exact length_without hO u⟩
theorem one_put {L : List Doc} (hO : Ord L) (d : Doc) : OneU L (putD d L) d.uri := by
  refine ⟨fun x hx => get_put_other L d hx, ?_⟩
  have h1 := length_without hO d.uri
  rw [get_put]
  unfold putD
  rw [length_ins]
  simp only [Option.isSome_some, if_pos]
  omega
theorem one_open {L : List Doc} (hO : Ord L) (u t : List UInt8) (v : Int) (h : openE L u t = 0) : OneU L (openL L u t v) u := by
  unfold openL
  rw [if_pos h]
  exact one_put hO ⟨u, t, v⟩
theorem one_chg {L : List Doc} (hO : Ord L) (u : List UInt8) (v : Int) (cs : List Chg) (h : chgE L u v cs = 0) : OneU L (chgL L u v cs) u := by
  unfold chgE at h
  unfold chgL
  cases hg : getD? L u with
  | none => rw [hg] at h; simp at h
  | some d =>
    rw [hg] at h
    simp only at h ⊢
    by_cases hv : v ≤ d.ver
    · rw [if_pos hv] at h; simp at h
    · rw [if_neg hv] at h ⊢
      rw [if_pos h]
      exact one_put hO ⟨u, _, v⟩
theorem CameAt.put {w : World} {C : Nat} {L L' : List Doc} {f : List UInt8 → Nat} (h : CameAt w C L f) (u : ByteArray) (hu : u.size ≤ maxLen) (hL : L.length < maxLen) (ho : OneU L L' u.data.toList) (hs : (getD? L' u.data.toList).isSome = true) (n : Nat) (_hn : wfI (n : Int)) :
    ∃ w', (Instr.mapUpdate 101 (.map (some C)) (.string u) (.int .i64 (n : Int))).run Tryz.prog w = .ok () w' ∧ CameAt w' C L' (fun x => if u.data.toList = x then n else f x) ∧ w.grownBy w' (some C) := by
  obtain ⟨D, h1, h2, h3, h4⟩ := h
  rw [h2] at h1
  obtain ⟨w', k1, k2, ht⟩ := h1.store law9 Tryz.underlying101 hL (Go.WideMaps.keyOf_string_mk Tryz.underlying9 hu) (show intEl (.int .i64 (n : Int)) = some (.lit (.int .i64 (n : Int)), []) from rfl)
  have hsz := size_put (D := D) (k := .string u.data.toList) (h1.tidy law9) (.lit (.int .i64 (n : Int)))
  rw [h3, h2] at hsz
  have hl := ho.len
  rw [hs] at hl
  refine ⟨w', k1, ⟨D.put (.string u.data.toList) (.lit (.int .i64 (n : Int))), ownM_tight k2, ?_, fun x => ?_, fun x hx z => ?_⟩, World.mapTurned.grown ht⟩
  · rw [hsz]
    simp only [if_pos] at hl
    split <;> rename_i hc
    · rw [hc] at hl; simp at hl; omega
    · simp only [hc] at hl; simp at hl; omega
  · by_cases e : x = u.data.toList
    · subst e
      rw [has_put_same (h1.tidy law9).isMap (by exact trivial), hs]
    · rw [has_put_other (by intro e2; exact e (by cases e2; rfl)), h3, ho.same x e]
  · by_cases e : u.data.toList = x
    · subst e
      simp only [if_true]
      rw [atKey_put_same (h1.tidy law9).isMap (by exact trivial)]
    · simp only
      rw [if_neg e, atKey_put_other (by intro e2; exact e (by cases e2; rfl))]
      exact h4 x (by rw [← ho.same x (fun e2 => e e2.symm)]; exact hx) z
theorem CameAt.del {w : World} {C : Nat} {L L' : List Doc} {f : List UInt8 → Nat} (h : CameAt w C L f) (u : ByteArray) (hu : u.size ≤ maxLen) (ho : OneU L L' u.data.toList) (hs : getD? L' u.data.toList = none) (n : Nat) :
    ∃ w', (∀ ty, (Builtin.delete_ #[101, 9] ty #[.map (some C), .string u]).run Tryz.prog w = .ok (.tuple #[]) w') ∧ CameAt w' C L' (fun x => if u.data.toList = x then n else f x) ∧ w.grownBy w' (some C) := by
  obtain ⟨D, h1, h2, h3, h4⟩ := h
  have hd := fun ty => h1.drop law9 Tryz.underlying101 (Go.WideMaps.keyOf_string_mk Tryz.underlying9 hu) ty
  obtain ⟨w', k1, k2, ht⟩ := hd 0
  have hsz := size_del (D := D) (k := .string u.data.toList) (h1.tidy law9)
  rw [h3, h2] at hsz
  have hl := ho.len
  rw [hs] at hl
  simp only [Option.isSome_none] at hl
  refine ⟨w', fun ty => k1, ⟨D.del (.string u.data.toList), ownM_tight k2, ?_, fun x => ?_, fun x hx z => ?_⟩, World.mapTurned.grown ht⟩
  · simp at hl
    omega
  · by_cases e : x = u.data.toList
    · subst e
      rw [has_del_same, hs]
      rfl
    · rw [has_del_other (by intro e2; exact e (by cases e2; rfl)), h3, ho.same x e]
  · have e : u.data.toList ≠ x := by
      rintro rfl
      rw [hs] at hx
      cases hx
    simp only
    rw [if_neg e, atKey_del_other (by intro e2; exact e (by cases e2; rfl))]
    exact h4 x (by rw [← ho.same x (fun e2 => e e2.symm)]; exact hx) z
set_option maxRecDepth 100000 in
theorem open1_any (w : World) (hT : Tabs w) (d M : Nat) (L : List Doc) (h : DV w d M L) (hM : 5 < M) (u t : ByteArray) (v : Int) (hu : u.size ≤ 1000000) (ht : t.size ≤ 1000000) (hL : L.length ≤ 32) (p q : Addr) (hp : w.cell? p = some (.string t)) (hq : w.cell? q = some (.int .i64 v)) :
    Calls Tryz.prog 78 #[.pointer (some ⟨d, 0, none⟩), .string u, .pointer (some p), .pointer (some q)] w fun e w' => e = .returned (.int .i64 (openE L u.data.toList t.data.toList)) ∧ DV w' d M (openL L u.data.toList t.data.toList v) ∧ w.grownBy w' (some M) := by
  have ho := open_any w hT d M L h hM u t v hu (by omega) (by omega)
  clear h
  go_enter Tryz.func78, Tryz.ntmps78
  go_wp2_with (first | (go_at_call 41; refine ho.mono ?_; rintro e w1 ⟨rfl, h1, h2⟩))
  go_ret
  exact ⟨rfl, h1, h2⟩
set_option maxRecDepth 100000 in
theorem chg1_any (w : World) (hT : Tabs w) (d M : Nat) (L : List Doc) (h : DV w d M L) (hM : 5 < M) (u : ByteArray) (v : Int) (a : Option Addr) (n c : Nat) (cs : List Chg) (hu : u.size ≤ 1000000) (hn : n = cs.length) (hn2 : n ≤ 1000) (hI : ChgsAt w a cs) (hL : L.length ≤ 32) (hS : ∀ d ∈ L, d.text.length ≤ 65536) (hXs : ∀ x ∈ cs, x.text.size ≤ 70000) (p q : Addr) (hp : w.cell? p = some (.int .i64 v)) (hq : w.cell? q = some (.slice a n c)) :
    Calls Tryz.prog 79 #[.pointer (some ⟨d, 0, none⟩), .string u, .pointer (some p), .pointer (some q)] w fun e w' => e = .returned (.int .i64 (chgE L u.data.toList v cs)) ∧ DV w' d M (chgL L u.data.toList v cs) ∧ w.grownBy w' (some M) := by
  have ho := change_any w hT d M L h hM u v a n c cs hu hn (by unfold maxLen; omega) hI (by omega) hS (fun x hx => by have := hXs x hx; omega)
  clear h hn hI
  go_enter Tryz.func79, Tryz.ntmps79
  go_wp2_with (first | (go_at_call 43; refine ho.mono ?_; rintro e w1 ⟨rfl, h1, h2⟩))
  go_ret
  exact ⟨rfl, h1, h2⟩
theorem cells_s {w : World} {s m n : Nat} (h : w.heap[s]? = some (.cells #[.map (some m), .int .i64 (n : Int)] 72 (0, 0))) : w.cell? ⟨s, 0, none⟩ = some (.map (some m)) ∧ w.cell? ⟨s, 1, none⟩ = some (.int .i64 (n : Int)) := by
  constructor <;> simp [World.cell?, h]
/-- the new generation's pieces, and what is old -/
structure NewG (w0 w : World) (s m b8 d2 M2 C2 : Nat) (L' Lf : List Doc) (f : List UInt8 → Nat) : Prop where
  hd8 : w.heap[b8]? = some (.cells #[.pointer (some ⟨d2, 0, none⟩), .map (some C2), .int .i64 0] 103 (0, 0))
  dv : DV w d2 M2 L'
  cm : CameAt w C2 Lf f
  old : ∀ k, k < w0.heap.size → k ≠ s → k ≠ m → w.heap[k]? = w0.heap[k]?
  sz : w0.heap.size ≤ w.heap.size
  os : w.os = w0.os
  tape : w.tape = w0.tape
  output : w.output = w0.output
theorem NewG.kept {w0 w w' : World} {s m b8 d2 M2 C2 : Nat} {L' Lf : List Doc} {f : List UInt8 → Nat} (h : NewG w0 w s m b8 d2 M2 C2 L' Lf f) {row : Option Nat} (hg : w.grownBy w' row) (hr : row = none ∨ row = some s ∨ row = some m) (hs : s < w0.heap.size) (hm : m < w0.heap.size) (h1 : w0.heap.size ≤ b8) (h2 : w0.heap.size ≤ d2) (h3 : w0.heap.size ≤ M2) (h4 : w0.heap.size ≤ C2) : NewG w0 w' s m b8 d2 M2 C2 L' Lf f := by
  have hne : ∀ k, w0.heap.size ≤ k → some k ≠ row := fun k hk e => by
    rcases hr with rfl | rfl | rfl
    · cases e
    · have := Option.some.inj e; omega
    · have := Option.some.inj e; omega
  refine ⟨(hg.block b8 (Array.getElem?_eq_some_iff.1 h.hd8).1 (hne b8 h1)).trans h.hd8, h.dv.kept hg (hne d2 h2) (hne M2 h3), h.cm.kept hg (hne C2 h4), fun k k1 k2 k3 => (hg.block k (Nat.lt_of_lt_of_le k1 h.sz) (fun e => ?_)).trans (h.old k k1 k2 k3), Nat.le_trans h.sz hg.size, hg.os.trans h.os, hg.tape.trans h.tape, hg.output.trans h.output⟩
  rcases hr with rfl | rfl | rfl
  · cases e
  · exact k2 (Option.some.inj e)
  · exact k3 (Option.some.inj e)
theorem NewG.cells {w0 w : World} {s m b8 d2 M2 C2 : Nat} {L' Lf : List Doc} {f : List UInt8 → Nat} (h : NewG w0 w s m b8 d2 M2 C2 L' Lf f) : w.cell? ⟨b8, 0, none⟩ = some (.pointer (some ⟨d2, 0, none⟩)) ∧ w.cell? ⟨b8, 1, none⟩ = some (.map (some C2)) := by
  have := h.hd8
  constructor <;> simp [World.cell?, this]
theorem NewG.came {w0 w w' : World} {s m b8 d2 M2 C2 : Nat} {L' Lf Lf' : List Doc} {f f' : List UInt8 → Nat} (h : NewG w0 w s m b8 d2 M2 C2 L' Lf f) (hg : w.grownBy w' (some C2)) (hc : CameAt w' C2 Lf' f') (n1 : b8 ≠ C2) (n2 : d2 ≠ C2) (n3 : M2 ≠ C2) (h4 : w0.heap.size ≤ C2) : NewG w0 w' s m b8 d2 M2 C2 L' Lf' f' :=
  ⟨(hg.block b8 (Array.getElem?_eq_some_iff.1 h.hd8).1 (fun e => n1 (Option.some.inj e))).trans h.hd8, h.dv.kept hg (fun e => n2 (Option.some.inj e)) (fun e => n3 (Option.some.inj e)), hc, fun k k1 k2 k3 => (hg.block k (Nat.lt_of_lt_of_le k1 h.sz) (fun e => by have := Option.some.inj e; omega)).trans (h.old k k1 k2 k3), Nat.le_trans h.sz hg.size, hg.os.trans h.os, hg.tape.trans h.tape, hg.output.trans h.output⟩
theorem NewG.fs {w0 w : World} {s m lo b8 d2 M2 C2 : Nat} {L' Lf : List Doc} {f : List UInt8 → Nat} (h : NewG w0 w s m b8 d2 M2 C2 L' Lf f) (h1 : lo ≤ s) (h2 : lo ≤ m) (h3 : s < w0.heap.size) : FsK w0 w s m ∧ Below lo w0 w :=
  ⟨⟨h.os, h.tape, h.output, h.sz, fun k k1 k2 k3 _ => h.old k k1 k2 k3⟩, ⟨h.os, h.tape, h.output, h.sz, fun k hk => h.old k (by omega) (by omega) (by omega)⟩⟩
theorem NewG.gen {w0 w : World} {s m b8 d2 M2 C2 : Nat} {L' : List Doc} {G : List Gen} {u : List UInt8} {f : List UInt8 → Nat} (h : NewG w0 w s m b8 d2 M2 C2 L' L' f) (hf : ∀ x, f x = cameOf (addG G L' u) G.length x) (hm : m < w0.heap.size) (h3 : w0.heap.size ≤ M2) (h4 : w0.heap.size ≤ C2) : Nonempty (GenAt w (addG G L' u) G.length b8 m) :=
  ⟨⟨⟨L', 0, u⟩, d2, M2, C2, by simp [addG], h.hd8, h.dv, by rw [← funext hf]; exact h.cm, by omega, by omega⟩⟩
end Go.Proofs.Dc
