/- Changes as rows of cells; theirs. -/
import Derived.Test.YtcenfckjkboabaaGreatDoorE10
import Derived.Deep.RegionHeld3
namespace Go.Proofs.Dc
open Go.RowKit Go.Proofs Go.Lib Go.Maps

def chgC (x : Chg) : List Value := [.bool x.whole, .int .i64 x.a, .int .i64 x.b, .int .i64 x.c, .int .i64 x.d, .string x.text]
def chgsC (l : List Chg) : List Value := l.flatMap chgC
theorem chgsC_snoc (l : List Chg) (x : Chg) : chgsC (l ++ [x]) = chgsC l ++ chgC x := by simp [chgsC]
theorem chgsC_length (l : List Chg) : (chgsC l).length = l.length * 6 := by
  induction l with
  | nil => rfl
  | cons x t ih =>
    show (chgC x ++ chgsC t).length = _
    rw [List.length_append, ih, List.length_cons]
    simp [chgC]
    omega
theorem chgC_ones (x : Chg) : ∀ u ∈ chgC x, u.oneCell' = true := fun u hu => by
  simp [chgC] at hu
  rcases hu with rfl | rfl | rfl | rfl | rfl | rfl <;> rfl
theorem chgsC_ones (l : List Chg) : ∀ u ∈ chgsC l, u.oneCell' = true := fun u hu => by
  unfold chgsC at hu
  obtain ⟨d, _, hd⟩ := List.mem_flatMap.1 hu
  exact chgC_ones d u hd
theorem chgsC_at {l : List Chg} {k : Nat} {x : Chg} (h : l[k]? = some x) (f : Nat) (hf : f < 6) : (chgsC l)[k * 6 + f]? = (chgC x)[f]? := by
  induction l generalizing k with
  | nil => simp at h
  | cons i t ih =>
    show (chgC i ++ chgsC t)[k * 6 + f]? = _
    cases k with
    | zero =>
      simp at h
      subst h
      rw [List.getElem?_append_left (by simp [chgC]; omega)]
      simp
    | succ k =>
      simp at h
      rw [List.getElem?_append_right (by simp [chgC]; omega)]
      rw [show (k + 1) * 6 + f - (chgC i).length = k * 6 + f by simp [chgC]; omega]
      exact ih h
theorem info122 : (Tryz.prog.info? 122).map (fun i => (i.zero, i.size, i.bytes)) = some (some (.agg #[.bool false, .int .i64 0, .int .i64 0, .int .i64 0, .int .i64 0, .string ⟨#[]⟩]), 6, 56) := by kernel_rfl
theorem info78 : (Tryz.prog.info? 78).map (fun i => (i.zero, i.size, i.bytes)) = some (some (.agg #[.bool false, .int .i64 0, .int .i64 0, .int .i64 0, .int .i64 0, .string ⟨#[]⟩]), 6, 56) := by kernel_rfl
/-- a row of changes, as changes in memory -/
theorem row_chgs {w : World} {B e : Nat} {v : Value} {L : List Chg} (hT : ∀ x ∈ L, x.text.size ≤ maxLen) (h : w.ownsRow B e 6 v L.length (chgsC L)) :
    ∃ (p : Option Addr) (cap : Nat), v = .slice p L.length cap ∧ L.length ≤ cap ∧ ChgsAt w p L := by
  rcases h.2 with ⟨rfl, h2⟩ | ⟨g, cap, cur, rfl, h2, h3, h4, h5, h6, h7⟩
  · have : L = [] := List.length_eq_zero_iff.1 h2
    subst this
    exact ⟨none, 0, rfl, Nat.le_refl _, fun q d hd => by simp at hd⟩
  · refine ⟨_, _, rfl, h4, fun q d hd => ⟨_, rfl, ?_⟩⟩
    have hq := (List.getElem?_eq_some_iff.1 hd).1
    have hc : ∀ f, f < 6 → w.cell? ⟨g, q * 6 + f, none⟩ = (chgC d)[f]? := fun f hf => by
      simp only [World.cell?, h3]
      rw [← Array.getElem?_toList, ← List.getElem?_take_of_lt (show q * 6 + f < L.length * 6 by omega), h7, chgsC_at hd f hf]
      rfl
    rw [add_off, Nat.zero_add]
    exact ⟨hc 0 (by omega), hc 1 (by omega), hc 2 (by omega), hc 3 (by omega), hc 4 (by omega), hc 5 (by omega), hT d (List.mem_of_getElem? hd), (Array.getElem?_eq_some_iff.1 h3).1⟩
/-- changes in memory as a source of append -/
theorem chgs_src {w : World} {a : Addr} {l : List Chg} (h : ChgsAt w (some a) l) : ∀ j u, (chgsC l)[j]? = some u → w.cell? (a.add j) = some u := fun j u hu => by
  have hj := (List.getElem?_eq_some_iff.1 hu).1
  rw [chgsC_length] at hj
  have hq : j / 6 < l.length := by omega
  obtain ⟨b, hb, hA⟩ := h (j / 6) _ (List.getElem?_eq_getElem hq)
  obtain rfl := Option.some.inj hb
  have hm : j % 6 < 6 := Nat.mod_lt _ (by decide)
  have e := chgsC_at (List.getElem?_eq_getElem hq) (j % 6) hm
  rw [show j / 6 * 6 + j % 6 = j by omega, hu] at e
  have hd : j = j / 6 * 6 + j % 6 := by omega
  by_cases h0 : j % 6 = 0
  · rw [h0] at e hd
    rw [hd, Nat.add_zero, e]
    exact hA.c0
  · rw [hd, add_at a (j / 6 * 6) (j % 6) (by omega), e]
    generalize j % 6 = f at *
    obtain rfl | rfl | rfl | rfl | rfl : f = 1 ∨ f = 2 ∨ f = 3 ∨ f = 4 ∨ f = 5 := by omega
    · exact hA.c1
    · exact hA.c2
    · exact hA.c3
    · exact hA.c4
    · exact hA.c5
set_option maxRecDepth 100000 in
set_option maxHeartbeats 2000000 in
theorem theirs_any (w : World) (p : Option Addr) (n c : Nat) (l : List Chg) (hn : n = l.length) (hn2 : n ≤ 1000) (hI : ChgsAt w p l) :
    Calls Tryz.prog 58 #[.slice p n c] w fun e w' => ∃ v, e = .returned v ∧ w'.ownsRow w.heap.size 122 6 v n (chgsC l) ∧ Below w.heap.size w w' := by
  obtain ⟨i0, hi, hz0, hz1, hz2⟩ := infoP info122
  have HN := Lib.hid hn
  have HI := Lib.hid hI
  clear hn hI
  go_enter Tryz.func58, Tryz.ntmps58
  go_wp2
  go_loopw [3, 4] (fun v iv wr => ∃ k : Nat, iv = .int .i64 k ∧ k ≤ n ∧ wr.ownsRow w.heap.size 122 6 v k (chgsC (l.take k)) ∧ Below w.heap.size w wr) (fun _ iv _ => n - (RowKit.intOf iv).toNat)
  case atStart => exact ⟨0, rfl, Nat.zero_le _, World.ownsRow_nil _ _ _ _, Below.refl _ _⟩
  case round =>
    obtain ⟨k, rfl, hk, hown, hB⟩ := hrel
    obtain ⟨pl, cl, rfl⟩ := own_shape hown
    by_cases hkn : (k : Int) < (n : Int)
    · obtain ⟨x, hx⟩ : ∃ x, l[k]? = some x := ⟨_, List.getElem?_eq_getElem (by have := HN.out; omega)⟩
      obtain ⟨a, rfl, hA⟩ := HI.out k x hx
      have hA1 := hA.below hB
      have c0 := hA1.c0
      have c1 := hA1.c1
      have c2 := hA1.c2
      have c3 := hA1.c3
      have c4 := hA1.c4
      have c5 := hA1.c5
      have hcells : chgsC (l.take (k + 1)) = chgsC (l.take k) ++ [.bool x.whole, .int .i64 x.a, .int .i64 x.b, .int .i64 x.c, .int .i64 x.d, .string x.text] := by
        rw [List.take_add_one, hx]
        exact chgsC_snoc _ x
      have HCE := Lib.hid hcells
      have KC : Hid (∀ w', Below w.heap.size w w' → w'.cell? (a.add (k * 6)) = some (.bool x.whole) ∧ w'.cell? ⟨(a.add (k * 6)).block, (a.add (k * 6)).off + 1, none⟩ = some (.int .i64 x.a) ∧ w'.cell? ⟨(a.add (k * 6)).block, (a.add (k * 6)).off + 2, none⟩ = some (.int .i64 x.b) ∧ w'.cell? ⟨(a.add (k * 6)).block, (a.add (k * 6)).off + 3, none⟩ = some (.int .i64 x.c) ∧ w'.cell? ⟨(a.add (k * 6)).block, (a.add (k * 6)).off + 4, none⟩ = some (.int .i64 x.d) ∧ w'.cell? ⟨(a.add (k * 6)).block, (a.add (k * 6)).off + 5, none⟩ = some (.string x.text)) := Lib.hid fun w' hb => by
        have hA2 := hA.below hb
        exact ⟨hA2.c0, hA2.c1, hA2.c2, hA2.c3, hA2.c4, hA2.c5⟩
      clear hcells hx hA hA1
      go_wp2_with fail
      refine wp_region_held_drew (S := fun v => v.cell? (a.add (k * 6)) = some (.bool x.whole) ∧ v.cell? ⟨(a.add (k * 6)).block, (a.add (k * 6)).off + 1, none⟩ = some (.int .i64 x.a) ∧ v.cell? ⟨(a.add (k * 6)).block, (a.add (k * 6)).off + 2, none⟩ = some (.int .i64 x.b) ∧ v.cell? ⟨(a.add (k * 6)).block, (a.add (k * 6)).off + 3, none⟩ = some (.int .i64 x.c) ∧ v.cell? ⟨(a.add (k * 6)).block, (a.add (k * 6)).off + 4, none⟩ = some (.int .i64 x.d) ∧ v.cell? ⟨(a.add (k * 6)).block, (a.add (k * 6)).off + 5, none⟩ = some (.string x.text)) (by kernel_rfl) ⟨c0, c1, c2, c3, c4, c5⟩ (fun hHeld => ?_)
      refine wpAnyH_take (i := 0) (oi := { dst := some 11, op := Op.move (Operand.tmp 3), type := 93, pos := "law.go:49", after := #[], guard := none }) (v := ?_) rfl (by kernel_rfl) (by kernel_rfl) (by kernel_rfl) (fun _ _ _ h => h) (Or.inl ⟨by rfl, ?_⟩) (by assumption) ?_
      rotate_left
      · intro w hS; obtain ⟨hS0, hS1, hS2, hS3, hS4, hS5⟩ := hS; go_simp; with_reducible rfl
      try simp only [Act.put, List.setIfInBounds_toArray, List.set_cons_zero, List.set_cons_succ]
      refine wpAnyH_take (i := 1) (oi := { dst := some 12, op := Op.move (Operand.tmp 0), type := 33, pos := "law.go:49", after := #[], guard := none }) (v := ?_) rfl (by kernel_rfl) (by kernel_rfl) (by kernel_rfl) (fun _ _ _ h => h) (Or.inl ⟨by rfl, ?_⟩) (by assumption) ?_
      rotate_left
      · intro w hS; obtain ⟨hS0, hS1, hS2, hS3, hS4, hS5⟩ := hS; go_simp; with_reducible rfl
      try simp only [Act.put, List.setIfInBounds_toArray, List.set_cons_zero, List.set_cons_succ]
      refine wpAnyH_take (i := 2) (oi := { dst := some 13, op := Op.move (Operand.tmp 4), type := 3, pos := "law.go:49", after := #[], guard := none }) (v := ?_) rfl (by kernel_rfl) (by kernel_rfl) (by kernel_rfl) (fun _ _ _ h => h) (Or.inl ⟨by rfl, ?_⟩) (by assumption) ?_
      rotate_left
      · intro w hS; obtain ⟨hS0, hS1, hS2, hS3, hS4, hS5⟩ := hS; go_simp; with_reducible rfl
      try simp only [Act.put, List.setIfInBounds_toArray, List.set_cons_zero, List.set_cons_succ]
      refine wpAnyH_take (i := 3) (oi := { dst := some 14, op := Op.indexAddr 33 (Operand.tmp 12) (Operand.tmp 13), type := 0, pos := "law.go:49", after := #[{ on := 1, ground := Ground.data }, { on := 2, ground := Ground.data }], guard := none }) (v := ?_) rfl (by kernel_rfl) (by kernel_rfl) (by kernel_rfl) (fun _ _ _ h => h) (Or.inl ⟨by rfl, ?_⟩) (by assumption) ?_
      rotate_left
      · intro w hS; obtain ⟨hS0, hS1, hS2, hS3, hS4, hS5⟩ := hS; go_simp; with_reducible rfl
      try simp only [Act.put, List.setIfInBounds_toArray, List.set_cons_zero, List.set_cons_succ]
      refine wpAnyH_take (i := 4) (oi := { dst := some 15, op := Op.fieldAddr 78 (Operand.tmp 14) 0, type := 0, pos := "law.go:49", after := #[{ on := 3, ground := Ground.data }], guard := none }) (v := ?_) rfl (by kernel_rfl) (by kernel_rfl) (by kernel_rfl) (fun _ _ _ h => h) (Or.inl ⟨by rfl, ?_⟩) (by assumption) ?_
      rotate_left
      · intro w hS; obtain ⟨hS0, hS1, hS2, hS3, hS4, hS5⟩ := hS; go_simp; with_reducible rfl
      try simp only [Act.put, List.setIfInBounds_toArray, List.set_cons_zero, List.set_cons_succ]
      refine wpAnyH_take (i := 5) (oi := { dst := some 16, op := Op.load 4 (Operand.tmp 15), type := 4, pos := "law.go:49", after := #[{ on := 4, ground := Ground.data }], guard := none }) (v := ?_) rfl (by kernel_rfl) (by kernel_rfl) (by kernel_rfl) (fun _ _ _ h => h) (Or.inl ⟨by rfl, ?_⟩) (by assumption) ?_
      rotate_left
      · intro w hS; obtain ⟨hS0, hS1, hS2, hS3, hS4, hS5⟩ := hS; go_simp; with_reducible rfl
      try simp only [Act.put, List.setIfInBounds_toArray, List.set_cons_zero, List.set_cons_succ]
      refine wpAnyH_take (i := 6) (oi := { dst := some 17, op := Op.move (Operand.tmp 0), type := 33, pos := "law.go:49", after := #[], guard := none }) (v := ?_) rfl (by kernel_rfl) (by kernel_rfl) (by kernel_rfl) (fun _ _ _ h => h) (Or.inl ⟨by rfl, ?_⟩) (by assumption) ?_
      rotate_left
      · intro w hS; obtain ⟨hS0, hS1, hS2, hS3, hS4, hS5⟩ := hS; go_simp; with_reducible rfl
      try simp only [Act.put, List.setIfInBounds_toArray, List.set_cons_zero, List.set_cons_succ]
      refine wpAnyH_take (i := 7) (oi := { dst := some 18, op := Op.move (Operand.tmp 4), type := 3, pos := "law.go:49", after := #[], guard := none }) (v := ?_) rfl (by kernel_rfl) (by kernel_rfl) (by kernel_rfl) (fun _ _ _ h => h) (Or.inl ⟨by rfl, ?_⟩) (by assumption) ?_
      rotate_left
      · intro w hS; obtain ⟨hS0, hS1, hS2, hS3, hS4, hS5⟩ := hS; go_simp; with_reducible rfl
      try simp only [Act.put, List.setIfInBounds_toArray, List.set_cons_zero, List.set_cons_succ]
      refine wpAnyH_take (i := 8) (oi := { dst := some 19, op := Op.indexAddr 33 (Operand.tmp 17) (Operand.tmp 18), type := 0, pos := "law.go:49", after := #[{ on := 6, ground := Ground.data }, { on := 7, ground := Ground.data }], guard := none }) (v := ?_) rfl (by kernel_rfl) (by kernel_rfl) (by kernel_rfl) (fun _ _ _ h => h) (Or.inl ⟨by rfl, ?_⟩) (by assumption) ?_
      rotate_left
      · intro w hS; obtain ⟨hS0, hS1, hS2, hS3, hS4, hS5⟩ := hS; go_simp; with_reducible rfl
      try simp only [Act.put, List.setIfInBounds_toArray, List.set_cons_zero, List.set_cons_succ]
      refine wpAnyH_take (i := 9) (oi := { dst := some 20, op := Op.fieldAddr 78 (Operand.tmp 19) 1, type := 0, pos := "law.go:49", after := #[{ on := 8, ground := Ground.data }], guard := none }) (v := ?_) rfl (by kernel_rfl) (by kernel_rfl) (by kernel_rfl) (fun _ _ _ h => h) (Or.inl ⟨by rfl, ?_⟩) (by assumption) ?_
      rotate_left
      · intro w hS; obtain ⟨hS0, hS1, hS2, hS3, hS4, hS5⟩ := hS; go_simp; with_reducible rfl
      try simp only [Act.put, List.setIfInBounds_toArray, List.set_cons_zero, List.set_cons_succ]
      refine wpAnyH_take (i := 10) (oi := { dst := some 21, op := Op.load 76 (Operand.tmp 20), type := 76, pos := "law.go:49", after := #[{ on := 9, ground := Ground.data }], guard := none }) (v := ?_) rfl (by kernel_rfl) (by kernel_rfl) (by kernel_rfl) (fun _ _ _ h => h) (Or.inl ⟨by rfl, ?_⟩) (by assumption) ?_
      rotate_left
      · intro w hS; obtain ⟨hS0, hS1, hS2, hS3, hS4, hS5⟩ := hS; go_simp; with_reducible rfl
      try simp only [Act.put, List.setIfInBounds_toArray, List.set_cons_zero, List.set_cons_succ]
      refine wpAnyH_take (i := 11) (oi := { dst := some 22, op := Op.move (Operand.tmp 0), type := 33, pos := "law.go:49", after := #[], guard := none }) (v := ?_) rfl (by kernel_rfl) (by kernel_rfl) (by kernel_rfl) (fun _ _ _ h => h) (Or.inl ⟨by rfl, ?_⟩) (by assumption) ?_
      rotate_left
      · intro w hS; obtain ⟨hS0, hS1, hS2, hS3, hS4, hS5⟩ := hS; go_simp; with_reducible rfl
      try simp only [Act.put, List.setIfInBounds_toArray, List.set_cons_zero, List.set_cons_succ]
      refine wpAnyH_take (i := 12) (oi := { dst := some 23, op := Op.move (Operand.tmp 4), type := 3, pos := "law.go:49", after := #[], guard := none }) (v := ?_) rfl (by kernel_rfl) (by kernel_rfl) (by kernel_rfl) (fun _ _ _ h => h) (Or.inl ⟨by rfl, ?_⟩) (by assumption) ?_
      rotate_left
      · intro w hS; obtain ⟨hS0, hS1, hS2, hS3, hS4, hS5⟩ := hS; go_simp; with_reducible rfl
      try simp only [Act.put, List.setIfInBounds_toArray, List.set_cons_zero, List.set_cons_succ]
      refine wpAnyH_take (i := 13) (oi := { dst := some 24, op := Op.indexAddr 33 (Operand.tmp 22) (Operand.tmp 23), type := 0, pos := "law.go:49", after := #[{ on := 11, ground := Ground.data }, { on := 12, ground := Ground.data }], guard := none }) (v := ?_) rfl (by kernel_rfl) (by kernel_rfl) (by kernel_rfl) (fun _ _ _ h => h) (Or.inl ⟨by rfl, ?_⟩) (by assumption) ?_
      rotate_left
      · intro w hS; obtain ⟨hS0, hS1, hS2, hS3, hS4, hS5⟩ := hS; go_simp; with_reducible rfl
      try simp only [Act.put, List.setIfInBounds_toArray, List.set_cons_zero, List.set_cons_succ]
      refine wpAnyH_take (i := 14) (oi := { dst := some 25, op := Op.fieldAddr 78 (Operand.tmp 24) 2, type := 0, pos := "law.go:49", after := #[{ on := 13, ground := Ground.data }], guard := none }) (v := ?_) rfl (by kernel_rfl) (by kernel_rfl) (by kernel_rfl) (fun _ _ _ h => h) (Or.inl ⟨by rfl, ?_⟩) (by assumption) ?_
      rotate_left
      · intro w hS; obtain ⟨hS0, hS1, hS2, hS3, hS4, hS5⟩ := hS; go_simp; with_reducible rfl
      try simp only [Act.put, List.setIfInBounds_toArray, List.set_cons_zero, List.set_cons_succ]
      refine wpAnyH_take (i := 15) (oi := { dst := some 26, op := Op.load 9 (Operand.tmp 25), type := 9, pos := "law.go:49", after := #[{ on := 14, ground := Ground.data }], guard := none }) (v := ?_) rfl (by kernel_rfl) (by kernel_rfl) (by kernel_rfl) (fun _ _ _ h => h) (Or.inl ⟨by rfl, ?_⟩) (by assumption) ?_
      rotate_left
      · intro w hS; obtain ⟨hS0, hS1, hS2, hS3, hS4, hS5⟩ := hS; go_simp; with_reducible rfl
      try simp only [Act.put, List.setIfInBounds_toArray, List.set_cons_zero, List.set_cons_succ]
      refine wpAnyH_take (i := 16) (oi := { dst := some 27, op := Op.build 122 #[(0, Operand.tmp 16), (1, Operand.tmp 21), (2, Operand.tmp 26)], type := 122, pos := "law.go:49", after := #[{ on := 5, ground := Ground.data }, { on := 10, ground := Ground.data }, { on := 15, ground := Ground.data }], guard := none }) (v := ?_) rfl (by kernel_rfl) (by kernel_rfl) (by kernel_rfl) (fun _ _ _ h => h) (Or.inl ⟨by rfl, ?_⟩) (by assumption) ?_
      rotate_left
      · intro w hS; obtain ⟨hS0, hS1, hS2, hS3, hS4, hS5⟩ := hS; go_simp; with_reducible rfl
      try simp only [Act.put, List.setIfInBounds_toArray, List.set_cons_zero, List.set_cons_succ]
      have hown2 : wr.drew.ownsRow w.heap.size 122 6 (.slice pl k cl) k (chgsC (l.take k)) := hown
      have hB2 : Below w.heap.size w wr.drew := hB.drew
      generalize wr.drew = wd at *
      refine wpAnyH_ready (rs := [17]) (by kernel_rfl) (by simp) (AllReadyH.cons (o := { dst := some 28, op := Op.buildSlice 93 1 #[(0, Operand.tmp 27)], type := 93, pos := "law.go:49", after := #[{ on := 16, ground := Ground.data }], guard := none }) rfl (fun K hK => ?_) AllReadyH.nil)
      rw [if_pos (by rfl)]
      go_simp
      refine hK.out _ _ (KC.out _ (hB2.alloc hB2.size _)) (fun hS2 => ?_)
      clear hK K
      try simp only [Act.put, List.setIfInBounds_toArray, List.set_cons_zero, List.set_cons_succ]
      refine wpAnyH_ready (rs := [18]) (by kernel_rfl) (by simp) (AllReadyH.cons (o := { dst := some 29, op := Op.call { callee := Callee.builtin Builtin.append, args := #[Operand.tmp 11, Operand.tmp 28], argTypes := #[93, 93] }, type := 93, pos := "law.go:49", after := #[{ on := 0, ground := Ground.data }, { on := 17, ground := Ground.data }], guard := none }) rfl (fun K hK => ?_) AllReadyH.nil)
      rw [if_pos (by rfl)]
      refine wp_append_own _ (.tmp 11) (.tmp 28) 93 rfl w.heap.size 122 i0 _ 6 56 Tryz.underlying93 hi hz0 hz1 hz2 rfl (by decide) _ _ _ rfl (hown2.alloc _) ⟨wd.heap.size, 0, none⟩ 1 1 [.bool x.whole, .int .i64 x.a, .int .i64 x.b, .int .i64 x.c, .int .i64 x.d, .string x.text] rfl rfl (YtcenfckjkboabaaGreatDoor.cells_at_new _ _ _ _ rfl) (chgC_ones x) (by unfold maxLen; omega) (by omega) (by have := hB2.size; simp; omega) ?_; intro v' w4 hown' hgrow' _
      refine hK.out _ _ (KC.out _ ((hB2.alloc hB2.size _).grown hgrow' (by have := hB2.size; simp; omega) (fun q hq => (hown2.lt q hq).1))) (fun hS2 => ?_)
      clear hK K
      try simp only [Act.put, List.setIfInBounds_toArray, List.set_cons_zero, List.set_cons_succ]
      refine wpAnyH_take (i := 19) (oi := { dst := some 3, op := Op.assign (Operand.tmp 29), type := 93, pos := "law.go:49", after := #[{ on := 18, ground := Ground.data }, { on := 18, ground := Ground.chain }, { on := 0, ground := Ground.phase }, { on := 1, ground := Ground.phase }, { on := 2, ground := Ground.phase }, { on := 3, ground := Ground.phase }, { on := 4, ground := Ground.phase }, { on := 5, ground := Ground.phase }, { on := 6, ground := Ground.phase }, { on := 7, ground := Ground.phase }, { on := 8, ground := Ground.phase }, { on := 9, ground := Ground.phase }, { on := 10, ground := Ground.phase }, { on := 11, ground := Ground.phase }, { on := 12, ground := Ground.phase }, { on := 13, ground := Ground.phase }, { on := 14, ground := Ground.phase }, { on := 15, ground := Ground.phase }, { on := 16, ground := Ground.phase }, { on := 17, ground := Ground.phase }, { on := 18, ground := Ground.phase }], guard := none }) (v := ?_) rfl (by kernel_rfl) (by kernel_rfl) (by kernel_rfl) (fun _ _ _ h => h) (Or.inl ⟨by rfl, ?_⟩) (by assumption) ?_
      rotate_left
      · intro w hS; obtain ⟨hS0, hS1, hS2, hS3, hS4, hS5⟩ := hS; go_simp; with_reducible rfl
      try simp only [Act.put, List.setIfInBounds_toArray, List.set_cons_zero, List.set_cons_succ]
      refine wpAnyH_done (by kernel_rfl) ?_ _
      go_wp2_with fail
      go_roundw
      case rel => exact ⟨k + 1, by go_num, by omega, by rw [HCE.out]; exact hown', (hB2.alloc hB2.size _).grown hgrow' (by have := hB2.size; simp; omega) (fun q hq => (hown2.lt q hq).1)⟩
      case measure => simp [RowKit.intOf]; omega
    · have hkE : k = n := by omega
      subst hkE
      have hl : l.take k = l := by rw [HN.out]; exact List.take_length
      rw [hl] at hown
      go_wp2
      go_ret
      exact ⟨_, rfl, hown, hB⟩
end Go.Proofs.Dc
