/- emend/lines.At: the Pos of a place. -/
import Derived.Test.YtipbojiialfmeaaX0
import Derived.Shelf.RegionOpen
namespace Go.Proofs.Ytipbojiialfmeaa
open Go.RowKit Go.Shelf Go.Proofs.Utf Go.Lib

attribute [local go_sem] Oper.semAt_some

/-- a block of two ints -/
def Two (W : World) (B : Nat) (t : TypeId) (a b : Int) : Prop := W.heap[B]? = some (.cells #[.int .i64 a, .int .i64 b] t (0, 0))
theorem Two.lt {W : World} {B : Nat} {t : TypeId} {a b : Int} (h : Two W B t a b) : B < W.heap.size := (Array.getElem?_eq_some_iff.1 h).1
theorem Two.c0 {W : World} {B : Nat} {t : TypeId} {a b : Int} (h : Two W B t a b) : W.cell? ⟨B, 0, none⟩ = some (.int .i64 a) := by simp [World.cell?, show W.heap[B]? = _ from h]
theorem Two.c1 {W : World} {B : Nat} {t : TypeId} {a b : Int} (h : Two W B t a b) : W.cell? ⟨B, 1, none⟩ = some (.int .i64 b) := by simp [World.cell?, show W.heap[B]? = _ from h]
theorem Two.f0 {W : World} {B : Nat} {t : TypeId} {a b : Int} (h : Two W B t a b) : W.frozen? ⟨B, 0, none⟩ = false := by simp [World.frozen?, show W.heap[B]? = _ from h]
theorem Two.f1 {W : World} {B : Nat} {t : TypeId} {a b : Int} (h : Two W B t a b) : W.frozen? ⟨B, 1, none⟩ = false := by simp [World.frozen?, show W.heap[B]? = _ from h]
theorem Two.kept {W W' : World} {row : Option Nat} {B : Nat} {t : TypeId} {a b : Int} (h : Two W B t a b) (hg : W.grownBy W' row) (hne : some B ≠ row) : Two W' B t a b := (hg.block B h.lt hne).trans h
theorem Two.alloc {W : World} {B : Nat} {t : TypeId} {a b : Int} (h : Two W B t a b) (o : Obj) : Two (W.alloc o) B t a b := h.kept (World.grownBy_alloc W o none) (by simp)
theorem Two.at {w : World} {B : Nat} (t : TypeId) (a b : Int) (h : B = w.heap.size) : Two (w.alloc (.cells #[.int .i64 a, .int .i64 b] t)) B t a b := by subst h; exact World.alloc_heap_new w _
theorem Two.ok {W W' : World} {row : Option Nat} {B : Nat} {t : TypeId} {a b : Int} (h : Two W B t a b) (hg : W.grownBy W' row) (hr : ∀ r, row = some r → ∃ o : Obj, W.heap[r]? = some o ∧ o.isCells = false) : Two W' B t a b :=
  h.kept hg (fun e => by obtain ⟨o, ho, hc⟩ := hr B e.symm; rw [show W.heap[B]? = _ from h] at ho; cases ho; cases hc)
theorem Two.other {W : World} {B B' : Nat} {t : TypeId} {a b : Int} (h : Two W B t a b) (hne : B ≠ B') (j : Nat) (u : Value) : Two (W.setCell ⟨B', j, none⟩ u) B t a b := by
  unfold Two
  rw [Below.heap_setCell _ _ _ B hne]
  exact h
theorem Two.set0 {W : World} {B : Nat} {t : TypeId} {a b : Int} (h : Two W B t a b) (a' : Int) : Two (W.setCell ⟨B, 0, none⟩ (.int .i64 a')) B t a' b := by
  obtain ⟨hlt, hk⟩ := Array.getElem?_eq_some_iff.1 h
  show (W.heap.modify B _)[B]? = _
  rw [Array.getElem?_eq_getElem (by rw [Array.size_modify]; exact hlt), Array.getElem_modify_self, hk]
  rfl
theorem Two.set1 {W : World} {B : Nat} {t : TypeId} {a b : Int} (h : Two W B t a b) (b' : Int) : Two (W.setCell ⟨B, 1, none⟩ (.int .i64 b')) B t a b' := by
  obtain ⟨hlt, hk⟩ := Array.getElem?_eq_some_iff.1 h
  show (W.heap.modify B _)[B]? = _
  rw [Array.getElem?_eq_getElem (by rw [Array.size_modify]; exact hlt), Array.getElem_modify_self, hk]
  rfl
theorem Two.set {W : World} {B : Nat} {t : TypeId} {a b : Int} (h : Two W B t a b) (a' b' : Int) : Two ((W.setCell ⟨B, 0, none⟩ (.int .i64 a')).setCell ⟨B, 1, none⟩ (.int .i64 b')) B t a' b' := (h.set0 a').set1 b'
theorem Bx.far {W : World} {B B' : Nat} {t : TypeId} {v : Value} (h : Boxed W B t v) (hne : B ≠ B') (j : Nat) (u : Value) : Boxed (W.setCell ⟨B', j, none⟩ u) B t v := by
  unfold Boxed
  rw [Below.heap_setCell _ _ _ B hne]
  exact h
/-- the units of a line's head, up to a place -/
def uaL (s : ByteArray) (x : Nat × Nat) (p : Nat) : Nat := uaP (pieces (s.extract x.1 x.2).data.toList) 0 0 0 ((p : Int) - x.1)
/-- the Pos behind the lines pre -/
def posOf (s : ByteArray) (p : Nat) (pre : List (Nat × Nat)) : Int × Int := match pre.getLast? with
  | none => (0, 0)
  | some x => ((pre.length : Int) - 1, uaL s x p)
def clamp (n : Int) (m : Nat) : Nat := if n < 0 then 0 else if m < n.toNat then m else n.toNat

theorem tw_all {α : Type} (f : α → Bool) : ∀ (l : List α), (∀ y ∈ l, f y = true) → l.takeWhile f = l
  | [], _ => rfl
  | y :: r, h => by rw [List.takeWhile_cons, if_pos (h y (by simp)), tw_all f r (fun z hz => h z (by simp [hz]))]
theorem tw_some {α : Type} (f : α → Bool) : ∀ (l : List α) (x : α) (r : List α), (∀ y ∈ l, f y = true) → f x = false → (l ++ x :: r).takeWhile f = l
  | [], x, r, _, hx => by rw [List.nil_append, List.takeWhile_cons, if_neg (by simp [hx])]
  | y :: l, x, r, h, hx => by rw [List.cons_append, List.takeWhile_cons, if_pos (h y (by simp)), tw_some f l x r (fun z hz => h z (by simp [hz])) hx]
def R8 (s : ByteArray) (n : Int) (x : Ln s.size) (p : Nat) (W : World) (h : Nat) (k u : Int) : Exit → Act → World → Prop
  | .normal, a', w' => ∃ (w1 : World) (v1 v2 v3 v4 v5 v6 v7 v8 v9 v10 : Value), Below W.heap.size W w1 ∧ w' = (w1.setCell ⟨h + 3, 0, none⟩ (.int .i64 k)).setCell ⟨h + 3, 1, none⟩ (.int .i64 u) ∧
      a' = { tmps := #[.string s, .int .i64 n, .pointer (some ⟨h, 0, none⟩), .pointer (some ⟨h + 1, 0, none⟩), .pointer (some ⟨h + 2, 0, none⟩), .pointer (some ⟨h + 3, 0, none⟩), .pointer (some ⟨h + 4, 0, none⟩), .int .i64 (x.1.1 : Int), .int .i64 (x.1.2 : Int), .int .i64 n, .string s, .int .i64 (s.size : Int), .int .i64 (min n (s.size : Int)), .int .i64 (p : Int), .string s, .func (.func 35) #[] #[.pointer (some ⟨h + 5, 0, none⟩)], .int .i64 (x.1.1 : Int), .int .i64 (x.1.2 : Int), .int .i64 (x.1.1 : Int), .int .i64 (p : Int), .bool false, v1, v2, v3, v4, v5, v6, v7, v8, v9, v10, undef, undef, undef], defers := [] }
  | _, _, _ => False
def S8 (s : ByteArray) (p h : Nat) (k : Int) (w' : World) : Prop := w'.cell? ⟨h, 0, none⟩ = some (.string s) ∧ w'.cell? ⟨h + 1, 0, none⟩ = some (.int .i64 p) ∧ w'.cell? ⟨h + 4, 0, none⟩ = some (.int .i64 k)
def AtX (s : ByteArray) (p h : Nat) (c : Code) (pre : List (Ln s.size)) (W : World) : Prop :=
  c = .exit 0 ∧ ∃ (q : List (Ln s.size)) (x : Ln s.size), pre = q ++ [x] ∧ (∀ y ∈ q, y.1.1 ≤ p) ∧ p < x.1.1 ∧ Two W (h + 2) 35 0 0 ∧ Two W (h + 3) 35 (posOf s p (q.map (·.1))).1 (posOf s p (q.map (·.1))).2
set_option maxRecDepth 100000 in
set_option maxHeartbeats 1600000 in
theorem at_any (s : ByteArray) (n : Int) (w : World) (hs : s.size < 4294967281) :
    Calls Try.prog 16 #[.string s, .int .i64 n] w fun e w' => e = .returned (.agg #[.int .i64 (posOf s (clamp n s.size) ((linesL s.data.toList).takeWhile (fun x => decide (x.1 ≤ clamp n s.size)))).1, .int .i64 (posOf s (clamp n s.size) ((linesL s.data.toList).takeWhile (fun x => decide (x.1 ≤ clamp n s.size)))).2]) ∧ Below w.heap.size w w' := by
  obtain ⟨p, hp⟩ : ∃ p, clamp n s.size = p := ⟨_, rfl⟩
  have hmm : max (0 : Int) (min n (s.size : Int)) = (p : Int) := by rw [← hp]; unfold clamp; split <;> (try split) <;> omega
  have hple : p ≤ s.size := by rw [← hp]; unfold clamp; split <;> (try split) <;> omega
  rw [hp]
  refine (callsIn_wide (n := 5)).1 ?_
  refine callsIn_of_wp_marks Try.func16 rfl trivial ?_ rfl
  simp only [Try.ntmps16, List.size_toArray, List.length_cons, List.length_nil, Nat.reduceAdd, Nat.reduceSub, Array.replicate_succ, Array.replicate_zero, List.push_toArray, List.append_toArray, List.nil_append, List.cons_append]
  gi_wp2_with (refine ⟨trivial, ?_⟩; gi_at_call 28; refine (callsIn_wide.2 (each_any _ _)).mono ?_; rintro e w' ⟨rfl, rfl⟩)
  obtain ⟨W0, hW0⟩ : ∃ W0, (((((w.alloc (.cells #[.string s] 9)).alloc (.cells #[.int .i64 p] 3)).alloc (.cells #[.int .i64 0, .int .i64 0] 35)).alloc (.cells #[.int .i64 0, .int .i64 0] 35)).alloc (.cells #[.int .i64 0] 3)).alloc (.cells #[.string s] 9) = W0 := ⟨_, rfl⟩
  have hB0 : Below w.heap.size w W0 := by
    rw [← hW0]
    exact ((((((Below.refl _ w).alloc (Nat.le_refl _) _).alloc (by simp) _).alloc (by simp; omega) _).alloc (by simp; omega) _).alloc (by simp; omega) _).alloc (by simp; omega) _
  have b0 : Boxed W0 w.heap.size 9 (.string s) := by rw [← hW0]; exact (((((Bx.at 9 _ (by simp)).alloc _).alloc _).alloc _).alloc _).alloc _
  have b1 : Boxed W0 (w.heap.size + 1) 3 (.int .i64 p) := by rw [← hW0]; exact ((((Bx.at 3 _ (by simp)).alloc _).alloc _).alloc _).alloc _
  have b2 : Two W0 (w.heap.size + 2) 35 0 0 := by rw [← hW0]; exact (((Two.at 35 _ _ (by simp)).alloc _).alloc _).alloc _
  have b3 : Two W0 (w.heap.size + 3) 35 0 0 := by rw [← hW0]; exact ((Two.at 35 _ _ (by simp)).alloc _).alloc _
  have b4 : Boxed W0 (w.heap.size + 4) 3 (.int .i64 0) := by rw [← hW0]; exact (Bx.at 3 _ (by simp)).alloc _
  have b5 : Boxed W0 (w.heap.size + 5) 9 (.string s) := by rw [← hW0]; exact Bx.at 9 _ (by simp)
  have hsz : W0.heap.size = w.heap.size + 6 := by rw [← hW0]; simp
  rw [hW0, show w.heap.size + 1 + 1 = w.heap.size + 2 from rfl, show w.heap.size + 2 + 1 = w.heap.size + 3 from rfl, show w.heap.size + 3 + 1 = w.heap.size + 4 from rfl, show w.heap.size + 4 + 1 = w.heap.size + 5 from rfl]
  clear hW0
  have hmax := lns_length s
  refine wpIn_rangeFunc_ownF rfl (by omega) (gf := 35) (lb := #[.pointer (some ⟨w.heap.size + 5, 0, none⟩)]) rfl trivial (enters_of Try.func35 (by kernel_rfl) rfl)
    (each_stops s hs _ (by omega) (w.heap.size + 5) _ b5) Kp.trans (fun W l o o' _ hl ho _ => kp_b W l o o' hl ho) (Below.refl _ _) (fun _ => rfl)
    (fun pre W => ((∀ x ∈ pre, x.1.1 ≤ p) ∧ Boxed W w.heap.size 9 (.string s) ∧ Boxed W (w.heap.size + 1) 3 (.int .i64 p) ∧ Two W (w.heap.size + 2) 35 0 0 ∧ Two W (w.heap.size + 3) 35 (posOf s p (pre.map (·.1))).1 (posOf s p (pre.map (·.1))).2 ∧ Boxed W (w.heap.size + 4) 3 (.int .i64 (pre.length : Int))) ∧ Below w.heap.size w W)
    (fun c pre W => AtX s p w.heap.size c pre W ∧ Below w.heap.size w W)
    (OwnFrom.and (Own.from (fun pre A B row hs hg hr => ⟨hs.1, Bx.ok hs.2.1 hg hr, Bx.ok hs.2.2.1 hg hr, Two.ok hs.2.2.2.1 hg hr, Two.ok hs.2.2.2.2.1 hg hr, Bx.ok hs.2.2.2.2.2 hg hr⟩) _) (ownFrom_below (Nat.le_refl _) (by omega)))
    (fun c => OwnFrom.and (Own.from (fun pre A B row hs hg hr => by obtain ⟨hc, q, x, h1, h2, h3, h4, h5⟩ := hs; exact ⟨hc, q, x, h1, h2, h3, Two.ok h4 hg hr, Two.ok h5 hg hr⟩) _) (ownFrom_below (Nat.le_refl _) (by omega)))
    ⟨⟨by simp, b0, b1, b2, b3, b4⟩, hB0⟩
    (fun x => { tmps := #[.string s, .int .i64 n, .pointer (some ⟨w.heap.size, 0, none⟩), .pointer (some ⟨w.heap.size + 1, 0, none⟩), .pointer (some ⟨w.heap.size + 2, 0, none⟩), .pointer (some ⟨w.heap.size + 3, 0, none⟩), .pointer (some ⟨w.heap.size + 4, 0, none⟩), .int .i64 (x.1.1 : Int), .int .i64 (x.1.2 : Int), .int .i64 n, .string s, .int .i64 (s.size : Int), .int .i64 (min n (s.size : Int)), .int .i64 (p : Int), .string s, .func (.func 35) #[] #[.pointer (some ⟨w.heap.size + 5, 0, none⟩)], .int .i64 (x.1.1 : Int), .int .i64 (x.1.2 : Int), undef, undef, undef, undef, undef, undef, undef, undef, undef, undef, undef, undef, undef, undef, undef, undef], defers := [] }) ?assign ?body ?done ?stop
  case assign =>
    intro l x W K hK
    gi_wp2
    exact hK
  case body =>
    rintro l pre x W ⟨⟨hle, h0, h1, h2, h3, h4⟩, hB⟩ hlt
    have c0 := h0.cell; have c1 := h1.cell; have c4 := h4.cell; have f4 := h4.frozen; have f3 := h3.f0; have g3 := h3.f1; have c3 := h3.c0; have d3 := h3.c1
    have hx := x.2
    by_cases hgt : p < x.1.1
    · have hbq : (p : Int) < (x.1.1 : Int) := by omega
      gi_wp2
      exact ⟨KeepsOthers.refl _, ⟨rfl, pre, x, rfl, hle, hgt, h2, h3⟩, hB⟩
    · have hbq : ¬ (p : Int) < (x.1.1 : Int) := by omega
      have hmx : Try.prog.follows .mixedOrders = true := by kernel_rfl
      have hwr : IntKind.i64.wrap ((p : Int) - (x.1.1 : Int)) = (p : Int) - (x.1.1 : Int) := IntWalk.i64_in _ (by omega)
      have hcut : (s.extract x.1.1 x.1.2).size ≤ 140737488355328 := by simp; omega
      gi_wp2
      refine wpIn_mono (Q := R8 s n x p W w.heap.size (pre.length : Int) (uaL s x.1 p : Int)) ?_ ?_
      · clear hle hB hmax hB0 b0 b1 b2 b3 b4 b5 hsz hs hmm hp hlt
        obtain ⟨u, hu⟩ : ∃ u, uaP (pieces (s.extract x.1.1 x.1.2).data.toList) 0 0 0 ((p : Int) - (x.1.1 : Int)) = u := ⟨_, rfl⟩
        rw [show uaL s x.1 p = u from hu]
        have hS0 : S8 s p w.heap.size (pre.length : Int) W.drew := ⟨c0, c1, c4⟩
        refine region_round (S := S8 s p w.heap.size (pre.length : Int)) hmx (noDefer_of (by kernel_rfl)) (fun ⟨_, _, h⟩ => h) ?_
        refine wpAnyH_take (i := 0) (oi := { dst := some 21, op := Op.load 3 (Operand.tmp 6), type := 3, pos := "lines.go:75", after := #[], guard := none }) (v := ?_) rfl (by kernel_rfl) (by kernel_rfl) (by kernel_rfl) (fun _ _ _ h => h) (Or.inl ⟨by rfl, ?_⟩) (by assumption) ?_
        rotate_left
        · intro w hS; obtain ⟨c0, c1, c4⟩ := hS; go_simp; with_reducible rfl
        try simp only [Act.put, List.setIfInBounds_toArray, List.set_cons_zero, List.set_cons_succ]
        refine wpAnyH_take (i := 1) (oi := { dst := some 22, op := Op.load 9 (Operand.tmp 2), type := 9, pos := "lines.go:75", after := #[], guard := none }) (v := ?_) rfl (by kernel_rfl) (by kernel_rfl) (by kernel_rfl) (fun _ _ _ h => h) (Or.inl ⟨by rfl, ?_⟩) (by assumption) ?_
        rotate_left
        · intro w hS; obtain ⟨c0, c1, c4⟩ := hS; go_simp; with_reducible rfl
        try simp only [Act.put, List.setIfInBounds_toArray, List.set_cons_zero, List.set_cons_succ]
        refine wpAnyH_take (i := 2) (oi := { dst := some 23, op := Op.move (Operand.tmp 7), type := 3, pos := "lines.go:75", after := #[], guard := none }) (v := ?_) rfl (by kernel_rfl) (by kernel_rfl) (by kernel_rfl) (fun _ _ _ h => h) (Or.inl ⟨by rfl, ?_⟩) (by assumption) ?_
        rotate_left
        · intro w hS; obtain ⟨c0, c1, c4⟩ := hS; go_simp; with_reducible rfl
        try simp only [Act.put, List.setIfInBounds_toArray, List.set_cons_zero, List.set_cons_succ]
        refine wpAnyH_take (i := 3) (oi := { dst := some 24, op := Op.move (Operand.tmp 8), type := 3, pos := "lines.go:75", after := #[], guard := none }) (v := ?_) rfl (by kernel_rfl) (by kernel_rfl) (by kernel_rfl) (fun _ _ _ h => h) (Or.inl ⟨by rfl, ?_⟩) (by assumption) ?_
        rotate_left
        · intro w hS; obtain ⟨c0, c1, c4⟩ := hS; go_simp; with_reducible rfl
        try simp only [Act.put, List.setIfInBounds_toArray, List.set_cons_zero, List.set_cons_succ]
        refine wpAnyH_take (i := 4) (oi := { dst := some 25, op := Op.slice 9 (Operand.tmp 22) (some (Operand.tmp 23)) (some (Operand.tmp 24)) none, type := 9, pos := "lines.go:75", after := #[{ on := 1, ground := Ground.data }, { on := 2, ground := Ground.data }, { on := 3, ground := Ground.data }], guard := none }) (v := ?_) rfl (by kernel_rfl) (by kernel_rfl) (by kernel_rfl) (fun _ _ _ h => h) (Or.inl ⟨by rfl, ?_⟩) (by assumption) ?_
        rotate_left
        · intro w hS; obtain ⟨c0, c1, c4⟩ := hS; go_simp; with_reducible rfl
        try simp only [Act.put, List.setIfInBounds_toArray, List.set_cons_zero, List.set_cons_succ]
        refine wpAnyH_take (i := 5) (oi := { dst := some 26, op := Op.load 3 (Operand.tmp 3), type := 3, pos := "lines.go:75", after := #[], guard := none }) (v := ?_) rfl (by kernel_rfl) (by kernel_rfl) (by kernel_rfl) (fun _ _ _ h => h) (Or.inl ⟨by rfl, ?_⟩) (by assumption) ?_
        rotate_left
        · intro w hS; obtain ⟨c0, c1, c4⟩ := hS; go_simp; with_reducible rfl
        try simp only [Act.put, List.setIfInBounds_toArray, List.set_cons_zero, List.set_cons_succ]
        refine wpAnyH_take (i := 6) (oi := { dst := some 27, op := Op.move (Operand.tmp 7), type := 3, pos := "lines.go:75", after := #[], guard := none }) (v := ?_) rfl (by kernel_rfl) (by kernel_rfl) (by kernel_rfl) (fun _ _ _ h => h) (Or.inl ⟨by rfl, ?_⟩) (by assumption) ?_
        rotate_left
        · intro w hS; obtain ⟨c0, c1, c4⟩ := hS; go_simp; with_reducible rfl
        try simp only [Act.put, List.setIfInBounds_toArray, List.set_cons_zero, List.set_cons_succ]
        refine wpAnyH_take (i := 7) (oi := { dst := some 28, op := Op.binOp BinOp.sub 3 (Operand.tmp 26) (Operand.tmp 27) 3, type := 3, pos := "lines.go:75", after := #[{ on := 5, ground := Ground.data }, { on := 6, ground := Ground.data }], guard := none }) (v := ?_) rfl (by kernel_rfl) (by kernel_rfl) (by kernel_rfl) (fun _ _ _ h => h) (Or.inl ⟨by rfl, ?_⟩) (by assumption) ?_
        rotate_left
        · intro w hS; obtain ⟨c0, c1, c4⟩ := hS; go_simp; with_reducible rfl
        try simp only [Act.put, List.setIfInBounds_toArray, List.set_cons_zero, List.set_cons_succ]
        refine wpAnyH_ready (rs := [8]) (by kernel_rfl) (by simp) (AllReadyH.cons (o := { dst := some 29, op := Op.call { callee := Callee.value (Operand.func 30), args := #[Operand.tmp 25, Operand.tmp 28], argTypes := #[9, 3] }, type := 3, pos := "lines.go:75", after := #[{ on := 4, ground := Ground.data }, { on := 7, ground := Ground.data }], guard := none }) rfl (fun K hK => ?_) AllReadyH.nil)
        rw [if_pos (by rfl)]
        go_simp
        (refine (utfUnitsAt_any _ _ _ hcut).mono ?_; rintro e w1 ⟨rfl, hw1⟩; rw [hu]; have e0 := (hw1.cell (p := ⟨w.heap.size, 0, none⟩) h0.lt).trans c0; have e1 := (hw1.cell (p := ⟨w.heap.size + 1, 0, none⟩) h1.lt).trans c1; have e3 := (hw1.cell (p := ⟨w.heap.size + 3, 0, none⟩) h3.lt).trans c3; have l3 := (hw1.cell (p := ⟨w.heap.size + 3, 1, none⟩) h3.lt).trans d3; have e4 := (hw1.cell (p := ⟨w.heap.size + 4, 0, none⟩) h4.lt).trans c4; have k3 := (hw1.frozen (p := ⟨w.heap.size + 3, 0, none⟩) h3.lt).trans f3; have k5 := (hw1.frozen (p := ⟨w.heap.size + 3, 1, none⟩) h3.lt).trans g3)
        refine hK.out _ _ ⟨e0, e1, e4⟩ (fun hS2 => ?_)
        clear hK K
        try simp only [Act.put, List.setIfInBounds_toArray, List.set_cons_zero, List.set_cons_succ]
        refine wpAnyH_take (i := 9) (oi := { dst := some 30, op := Op.build 35 #[(0, Operand.tmp 21), (1, Operand.tmp 29)], type := 35, pos := "lines.go:75", after := #[{ on := 0, ground := Ground.data }, { on := 8, ground := Ground.data }], guard := none }) (v := ?_) rfl (by kernel_rfl) (by kernel_rfl) (by kernel_rfl) (fun _ _ _ h => h) (Or.inl ⟨by rfl, ?_⟩) (by assumption) ?_
        rotate_left
        · intro w hS; obtain ⟨c0, c1, c4⟩ := hS; go_simp; with_reducible rfl
        try simp only [Act.put, List.setIfInBounds_toArray, List.set_cons_zero, List.set_cons_succ]
        refine wpAnyH_ready (rs := [10]) (by kernel_rfl) (by simp) (AllReadyH.cons (o := { dst := none, op := Op.store 35 (Operand.tmp 5) (Operand.tmp 30), type := 0, pos := "lines.go:75", after := #[{ on := 9, ground := Ground.data }, { on := 8, ground := Ground.chain }, { on := 0, ground := Ground.phase }, { on := 1, ground := Ground.phase }, { on := 2, ground := Ground.phase }, { on := 3, ground := Ground.phase }, { on := 4, ground := Ground.phase }, { on := 5, ground := Ground.phase }, { on := 6, ground := Ground.phase }, { on := 7, ground := Ground.phase }, { on := 8, ground := Ground.phase }, { on := 9, ground := Ground.phase }], guard := none }) rfl (fun K hK => ?_) AllReadyH.nil)
        rw [if_pos (by rfl)]
        go_simp
        refine hK.out _ _ ⟨(by rw [World.cell?_setCell_far _ _ _ _ (by simp), World.cell?_setCell_far _ _ _ _ (by simp)]; exact e0), (by rw [World.cell?_setCell_far _ _ _ _ (by simp), World.cell?_setCell_far _ _ _ _ (by simp)]; exact e1), (by rw [World.cell?_setCell_far _ _ _ _ (by simp), World.cell?_setCell_far _ _ _ _ (by simp)]; exact e4)⟩ (fun hS3 => ?_)
        clear hK K
        try simp only [Act.put, List.setIfInBounds_toArray, List.set_cons_zero, List.set_cons_succ]
        refine wpAnyH_done (by kernel_rfl) ?_ _
        exact ⟨w1, _, _, _, _, _, _, _, _, _, _, (Below.refl _ W).drew.trans hw1, rfl, rfl⟩
      · rintro e a' w' hR
        cases e with
        | normal =>
          obtain ⟨w1, v1, v2, v3, v4, v5, v6, v7, v8, v9, v10, hw1, hw2, rfl⟩ := hR
          have kp1 : KeepsOthers W w1 := .of_grownBy (grown_of hw1) (fun j o e => by cases e)
          have h0' : Boxed w' w.heap.size 9 (.string s) := by rw [hw2]; exact (Bx.far (Bx.far ((hw1.block _ h0.lt).trans h0) (by omega) _ _) (by omega) _ _)
          have h1' : Boxed w' (w.heap.size + 1) 3 (.int .i64 p) := by rw [hw2]; exact (Bx.far (Bx.far ((hw1.block _ h1.lt).trans h1) (by omega) _ _) (by omega) _ _)
          have h2' : Two w' (w.heap.size + 2) 35 0 0 := by rw [hw2]; exact (Two.other (Two.other ((hw1.block _ h2.lt).trans h2) (by omega) _ _) (by omega) _ _)
          have h3' : Two w' (w.heap.size + 3) 35 (pre.length : Int) (uaL s x.1 p : Int) := by rw [hw2]; exact Two.set ((hw1.block _ h3.lt).trans h3) _ _
          have h4' : Boxed w' (w.heap.size + 4) 3 (.int .i64 (pre.length : Int)) := by rw [hw2]; exact (Bx.far (Bx.far ((hw1.block _ h4.lt).trans h4) (by omega) _ _) (by omega) _ _)
          have kp2 : KeepsOthers W w' := by rw [hw2]; exact (kp1.trans (KeepsOthers.setCell _ _ _)).trans (KeepsOthers.setCell _ _ _)
          have hB2 : Below w.heap.size w w' := by rw [hw2]; exact (((hB.trans (hw1.mono hB.size)).setCell (p := ⟨w.heap.size + 3, 0, none⟩) (by simp) _).setCell (p := ⟨w.heap.size + 3, 1, none⟩) (by simp) _)
          have hk2 : Kp (w.heap.size + 5) W w' := by rw [hw2]; exact fun v hv => (Bx.far (Bx.far (kp_below hw1 v hv) (by omega) _ _) (by omega) _ _)
          clear hw2 kp1 hw1 h0 h1 h2 h3 h4 c0 c1 c4 f4 f3 g3 c3 d3
          have c4 := h4'.cell; have f4 := h4'.frozen
          dsimp only
          gi_wp2
          refine ⟨kp2.trans (KeepsOthers.setCell _ _ _), hk2.trans (fun v hv => hv.other (by omega) _), ⟨?_, h0'.other (by omega) _, h1'.other (by omega) _, Two.other h2' (by omega) _ _, ?_, ?_⟩, hB2.setCell (p := ⟨w.heap.size + 4, 0, none⟩) (by simp) _⟩
          · intro y hy
            rcases List.mem_append.1 hy with hy | hy
            · exact hle y hy
            · rw [List.mem_singleton.1 hy]; omega
          · have hpo : posOf s p ((pre ++ [x]).map (·.1)) = ((pre.length : Int), (uaL s x.1 p : Int)) := by simp [posOf]
            rw [hpo]
            exact Two.other h3' (by omega) _ _
          · rw [List.length_append, List.length_singleton]
            exact h4'.set _
        | _ => exact hR.elim
  case done =>
    rintro D ys W hD rfl ⟨⟨hle, h0, h1, h2, h3, h4⟩, hB⟩ hK
    have htw : (linesL s.data.toList).takeWhile (fun x => decide (x.1 ≤ p)) = (lns s).map (·.1) := by
      rw [← lns_val s]
      exact tw_all _ _ (fun y hy => by obtain ⟨z, hz, rfl⟩ := List.mem_map.1 hy; exact decide_eq_true (hle z hz))
    have f2 := h2.f0; have g2 := h2.f1; have c3 := h3.c0; have d3 := h3.c1; have c2 := h2.c0; have d2 := h2.c1
    gi_wp2
    obtain ⟨ua, hua⟩ : ∃ ua, (posOf s p ((lns s).map (·.1))).1 = ua := ⟨_, rfl⟩
    obtain ⟨ub, hub⟩ : ∃ ub, (posOf s p ((lns s).map (·.1))).2 = ub := ⟨_, rfl⟩
    rw [hua, hub]
    have t2 := h2.set ua ub
    have hK' := ((KeepsOthers.setCell W ⟨w.heap.size + 2, 0, none⟩ (.int .i64 ua)).trans (KeepsOthers.setCell _ ⟨w.heap.size + 2, 1, none⟩ (.int .i64 ub))).same D _ hK rfl
    have r1 := cell_kept t2.c0 (grownBy_putObj' _ D (.deferred none)) (fun r e => by cases e; exact ⟨_, hK', rfl⟩)
    have r2 := cell_kept t2.c1 (grownBy_putObj' _ D (.deferred none)) (fun r e => by cases e; exact ⟨_, hK', rfl⟩)
    have hB3 := (hB.setCell (p := ⟨w.heap.size + 2, 0, none⟩) (by simp) (.int .i64 ua)).setCell (p := ⟨w.heap.size + 2, 1, none⟩) (by simp) (.int .i64 ub)
    refine ⟨by simp, .inl ⟨_, _, rfl, run_takeDeferred hK', ?_⟩⟩
    refine ⟨_, ?_, rfl, hB3.trans (belowK_b (w := w) (Nat.le_refl _) _ D _ _ (by omega) hK' rfl rfl)⟩
    simp [results, Try.f16, go_sem, r1, r2]
  case stop =>
    rintro D c pre W hD hpre ⟨⟨rfl, q, x, rfl, hle, hgt, h2, h3⟩, hB⟩ hK
    have htw : (linesL s.data.toList).takeWhile (fun x => decide (x.1 ≤ p)) = q.map (·.1) := by
      obtain ⟨r, hr⟩ := hpre
      rw [← lns_val s, ← hr, List.append_assoc, List.map_append]
      exact tw_some _ _ _ _ (fun y hy => by obtain ⟨z, hz, rfl⟩ := List.mem_map.1 hy; exact decide_eq_true (hle z hz)) (decide_eq_false (Nat.not_le.2 hgt))
    have f2 := h2.f0; have g2 := h2.f1; have c3 := h3.c0; have d3 := h3.c1; have c2 := h2.c0; have d2 := h2.c1
    gi_wp2
    obtain ⟨ua, hua⟩ : ∃ ua, (posOf s p (q.map (·.1))).1 = ua := ⟨_, rfl⟩
    obtain ⟨ub, hub⟩ : ∃ ub, (posOf s p (q.map (·.1))).2 = ub := ⟨_, rfl⟩
    rw [hua, hub]
    have t2 := h2.set ua ub
    have hK' := ((KeepsOthers.setCell W ⟨w.heap.size + 2, 0, none⟩ (.int .i64 ua)).trans (KeepsOthers.setCell _ ⟨w.heap.size + 2, 1, none⟩ (.int .i64 ub))).same D _ hK rfl
    have r1 := cell_kept t2.c0 (grownBy_putObj' _ D (.deferred none)) (fun r e => by cases e; exact ⟨_, hK', rfl⟩)
    have r2 := cell_kept t2.c1 (grownBy_putObj' _ D (.deferred none)) (fun r e => by cases e; exact ⟨_, hK', rfl⟩)
    have hB3 := (hB.setCell (p := ⟨w.heap.size + 2, 0, none⟩) (by simp) (.int .i64 ua)).setCell (p := ⟨w.heap.size + 2, 1, none⟩) (by simp) (.int .i64 ub)
    refine ⟨by simp, .inl ⟨_, _, rfl, run_takeDeferred hK', ?_⟩⟩
    refine ⟨_, ?_, rfl, hB3.trans (belowK_b (w := w) (Nat.le_refl _) _ D _ _ (by omega) hK' rfl rfl)⟩
    simp [results, Try.f16, go_sem, r1, r2]
end Go.Proofs.Ytipbojiialfmeaa
