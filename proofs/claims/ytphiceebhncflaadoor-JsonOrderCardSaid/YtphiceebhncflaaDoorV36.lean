/- JsonOrder: an object under way, and its calls. -/
import Derived.Test.YtphiceebhncflaaDoorV33
import Derived.Test.YtphiceebhncflaaDoorA1
namespace Go.Proofs.Jt
open Go.RowKit Go.Maps Go.Lib Go.Proofs.Utf Go.Proofs

abbrev itsOf (L : List IC) : List JV := L.map (·.y)
/-- an object under way: its box and its rows, whose items' own rows lie anywhere -/
structure OV (w : World) (B vb m m' : Nat) (ks : List (List UInt8)) (L : List IC) (kv iv : Value) : Prop where
  hd : w.heap[vb]? = some (.cells #[.int .i64 6, .string ⟨#[]⟩, kv, iv] 45 (0, 0))
  rk : w.ownsRow B 9 1 kv m (strC ks)
  ri : w.ownsRow B 45 4 iv m' (rowC L)
  vB : vb < B
theorem OV.fr {w w' : World} {P : Nat → Prop} {B vb m m' : Nat} {ks : List (List UInt8)} {L : List IC} {kv iv : Value} (h : OV w B vb m m' ks L kv iv) (F : FrP P w w') (hP : ∀ b, vb ≤ b → ¬ P b) : OV w' B vb m m' ks L kv iv :=
  ⟨(F.block vb (Array.getElem?_eq_some_iff.1 h.hd).1 (hP vb (Nat.le_refl _))).trans h.hd, row_fr h.rk F fun b hb => hP b (by have := (row_lt h.rk hb).1; have := h.vB; omega), row_fr h.ri F fun b hb => hP b (by have := (row_lt h.ri hb).1; have := h.vB; omega), h.vB⟩
theorem OV.below {w w' : World} {B vb m m' : Nat} {ks : List (List UInt8)} {L : List IC} {kv iv : Value} (h : OV w B vb m m' ks L kv iv) (hb : Below w.heap.size w w') : OV w' B vb m m' ks L kv iv := h.fr (FrP.of_none (P := fun _ => False) (gb_below' hb)) fun _ _ h => h
theorem OV.addK {w w61 w7 : World} {B vb m m' : Nat} {ks : List (List UInt8)} {L : List IC} {kv iv kv2 : Value} {u : List UInt8} (h : OV w B vb m m' ks L kv iv) (g : w.grownBy w61 none) (hg : w61.grownBy w7 kv.ownBlock)
    (hr : w7.ownsRow B 9 1 kv2 (m + 1) (strC ks ++ [.string ⟨u.toArray⟩])) : OV (w7.setCell ⟨vb, 2, none⟩ kv2) B vb (m + 1) m' (ks ++ [u]) L kv2 iv ∧ FrP (fun b => vb ≤ b) w (w7.setCell ⟨vb, 2, none⟩ kv2) := by
  have F7 : FrP (fun b => kv.ownBlock = some b) w w7 := (FrP.of_none g).trans (FrP.of_row hg fun k hk => hk)
  have F9 : FrP (fun b => b = vb) w7 (w7.setCell ⟨vb, 2, none⟩ kv2) := FrP.of (gb_set w7 vb 2 kv2) rfl
  have hvB := h.vB
  have hd7 := (F7.block vb (Array.getElem?_eq_some_iff.1 h.hd).1 (fun e => by have := (row_lt h.rk e).1; omega)).trans h.hd
  refine ⟨⟨heap_setCell_self hd7 2 kv2, ?_, ?_, hvB⟩, (F7.mono fun b _ e => by have := (row_lt h.rk e).1; omega).trans (F9.mono fun b _ e => by omega)⟩
  · rw [strC_snoc]
    exact row_fr hr F9 fun b hb e => by have := (row_lt hr hb).1; omega
  · refine row_fr (row_fr h.ri F7 fun b hb e => LV.apart h.rk h.ri b e hb) F9 fun b hb e => by have := (row_lt h.ri hb).1; omega
theorem OV.addI {w w61 w7 : World} {B vb m m' : Nat} {ks : List (List UInt8)} {L : List IC} {kv iv iv2 : Value} {c : IC} (h : OV w B vb m m' ks L kv iv) (g : w.grownBy w61 none) (hg : w61.grownBy w7 iv.ownBlock)
    (hr : w7.ownsRow B 45 4 iv2 (m' + 1) (rowC L ++ c.cells)) : OV (w7.setCell ⟨vb, 3, none⟩ iv2) B vb m (m' + 1) ks (L ++ [c]) kv iv2 ∧ FrP (fun b => vb ≤ b) w (w7.setCell ⟨vb, 3, none⟩ iv2) := by
  have F7 : FrP (fun b => iv.ownBlock = some b) w w7 := (FrP.of_none g).trans (FrP.of_row hg fun k hk => hk)
  have F9 : FrP (fun b => b = vb) w7 (w7.setCell ⟨vb, 3, none⟩ iv2) := FrP.of (gb_set w7 vb 3 iv2) rfl
  have hvB := h.vB
  have hd7 := (F7.block vb (Array.getElem?_eq_some_iff.1 h.hd).1 (fun e => by have := (row_lt h.ri e).1; omega)).trans h.hd
  refine ⟨⟨heap_setCell_self hd7 3 iv2, ?_, ?_, hvB⟩, (F7.mono fun b _ e => by have := (row_lt h.ri e).1; omega).trans (F9.mono fun b _ e => by omega)⟩
  · refine row_fr (row_fr h.rk F7 fun b hb e => LV.apart h.rk h.ri b hb e) F9 fun b hb e => by have := (row_lt h.rk hb).1; omega
  · rw [rowC_snoc]
    exact row_fr hr F9 fun b hb e => by have := (row_lt hr hb).1; omega
/-- items in a row of one's own -/
theorem jrow_of {w : World} {B m : Nat} {p : Option Addr} {c : Nat} {L : List IC} (h : w.ownsRow B 45 4 (.slice p m c) m (rowC L)) (hk : ∀ c ∈ L, KI w c.y c.kp c.kc c.ip c.ic ∧ c.y.str.length ≤ maxLen) : JRow w p L := fun i c hc => by
  refine ⟨?_, hk c (List.mem_of_getElem? hc)⟩
  have h0 := h
  obtain ⟨hl, h⟩ := h
  rcases h with ⟨e, hn⟩ | ⟨g, cap, cur, e, h1, h2, h3⟩
  · subst hn
    have : (rowC L).length = 0 := by rw [hl]
    rw [rowC_len] at this
    have := (List.getElem?_eq_some_iff.1 hc).1
    omega
  · cases e
    refine ⟨_, rfl, ?_⟩
    have hcell : ∀ j u, c.cells[j]? = some u → w.cell? ⟨g, i * 4 + j, none⟩ = some u := fun j u hu => by
      have hj : j < 4 := by
        have := (List.getElem?_eq_some_iff.1 hu).1
        simpa [IC.cells] using this
      have := h0.cells (g := g) rfl (i * 4 + j) u (by rw [rowC_get L i c hc j hj]; exact hu)
      rwa [add0] at this
    rw [add0]
    exact ⟨hcell 0 _ rfl, hcell 1 _ rfl, hcell 2 _ rfl, hcell 3 _ rfl, (Array.getElem?_eq_some_iff.1 h2).1⟩
theorem OV.ki {w : World} {B vb m m' : Nat} {ks : List (List UInt8)} {L : List IC} {kp ip : Option Addr} {kc ic : Nat} (h : OV w B vb m m' ks L (.slice kp m kc) (.slice ip m' ic)) (hk : ∀ c ∈ L, KI w c.y c.kp c.kc c.ip c.ic ∧ c.y.str.length ≤ maxLen) (hz : L.length ≤ maxLen ∧ ks.length ≤ maxLen ∧ ∀ s ∈ ks, s.length ≤ maxLen) :
    KI w (.mk 6 [] ks (itsOf L)) kp kc ip ic := by
  obtain ⟨kp', kc', e, hs, _⟩ := strs_of_row h.rk
  cases e
  exact KI.rows hs hz (jrow_of h.ri hk)
theorem wtL_le {l : List JV} {m : Nat} (h : ∀ x ∈ l, x.wt ≤ m) : wtL l ≤ l.length * m := by
  induction l with
  | nil => simp [wtL]
  | cons x t ih =>
    have h1 := h x List.mem_cons_self
    have h2 := ih fun y hy => h y (List.mem_cons_of_mem _ hy)
    rw [wtL, List.length_cons, Nat.add_mul]
    omega
theorem keysW_le {l : List (List UInt8)} {m : Nat} (h : ∀ x ∈ l, x.length ≤ m) : keysW l ≤ l.length * (m + 1) := by
  induction l with
  | nil => simp [keysW]
  | cons x t ih =>
    have h1 := h x List.mem_cons_self
    have h2 := ih fun y hy => h y (List.mem_cons_of_mem _ hy)
    rw [keysW, List.length_cons, Nat.add_mul]
    omega
section
variable {V : World} {n : Nat} {ks ks' : List (List UInt8)} {L L' : List IC} {kp ip kp' ip' : Option Addr} {kc ic kc' ic' : Nat}
theorem few6 (h : KI V (.mk 6 [] ks (itsOf L)) kp kc ip ic) (e1 : ks.length = n) (e2 : L.length = n) : Calls Tryd.prog 25 #[.agg #[.int .i64 6, .string ⟨#[]⟩, .slice kp n kc, .slice ip n ic]] V fun e w'' => e = .returned (.bool (decide (0 < (JV.mk 6 [] ks (itsOf L)).sz 1500))) ∧ Below V.heap.size V w'' := by
  have h1 := few_is h (Nat.zero_le _) rfl V (Below.refl _ _)
  simp only [kind_mk, str_mk, keys_mk, items_mk, List.length_map, e1, e2] at h1
  exact h1
theorem check6 (hT : Tabs V) (h : KI V (.mk 6 [] ks (itsOf L)) kp kc ip ic) (hw : (JV.mk 6 [] ks (itsOf L)).wt ≤ 1000000) (e1 : ks.length = n) (e2 : L.length = n) : Calls Tryd.prog 23 #[.agg #[.int .i64 6, .string ⟨#[]⟩, .slice kp n kc, .slice ip n ic]] V fun e w'' => e = .returned (.int .i64 ((JV.mk 6 [] ks (itsOf L)).chk : Nat)) ∧ Below V.heap.size V w'' := by
  have h1 := check_is hT h hw rfl V (Below.refl _ _)
  simp only [kind_mk, str_mk, keys_mk, items_mk, List.length_map, e1, e2] at h1
  exact h1
theorem same6 (hT : Tabs V) (h : KI V (.mk 6 [] ks (itsOf L)) kp kc ip ic) (h' : KI V (.mk 6 [] ks' (itsOf L')) kp' kc' ip' ic') (hw : (JV.mk 6 [] ks (itsOf L)).wt ≤ 1000000) (hw' : (JV.mk 6 [] ks' (itsOf L')).wt ≤ 1000000)
    (e1 : ks.length = n) (e2 : L.length = n) (e3 : ks'.length = n) (e4 : L'.length = n) {r : Bool} (hr : sameB (.mk 6 [] ks (itsOf L)) (.mk 6 [] ks' (itsOf L')) = r) :
    Calls Tryd.prog 26 #[.agg #[.int .i64 6, .string ⟨#[]⟩, .slice kp n kc, .slice ip n ic], .agg #[.int .i64 6, .string ⟨#[]⟩, .slice kp' n kc', .slice ip' n ic']] V fun e w'' => e = .returned (.bool r) ∧ Below V.heap.size V w'' := by
  have h1 := same_is hT h h' hw hw' rfl rfl V (Below.refl _ _)
  rw [hr] at h1
  simp only [kind_mk, str_mk, keys_mk, items_mk, List.length_map, e1, e2, e3, e4] at h1
  exact h1
theorem field6 (h : KI V (.mk 6 [] ks (itsOf L)) kp kc ip ic) (hw : (JV.mk 6 [] ks (itsOf L)).wt ≤ 1000000) (e1 : ks.length = n) (e2 : L.length = n) {y : JV} {Y K : ByteArray} (hY : (⟨y.str.toArray⟩ : ByteArray) = Y) (hf : fieldV (.mk 6 [] ks (itsOf L)) K.data.toList = some y) :
    Calls Tryd.prog 27 #[.agg #[.int .i64 6, .string ⟨#[]⟩, .slice kp n kc, .slice ip n ic], .string K] V fun e w'' => ∃ kp kc ip ic, e = .returned (.tuple #[.agg #[.int .i64 y.kind, .string Y, .slice kp y.keys.length kc, .slice ip y.items.length ic], .bool true]) ∧ KP w'' (V.heap.size ≤ ·) y kp kc ip ic ∧ y.str.length ≤ maxLen ∧ Below V.heap.size V w'' := by
  have h1 := field_is h hw rfl hY hf V (Below.refl _ _)
  simp only [kind_mk, str_mk, keys_mk, items_mk, List.length_map, e1, e2] at h1
  exact h1
end
/-- the first item of a row of one's own, another one -/
theorem row_first {w : World} {B g cap n : Nat} {c0 : IC} {r : List IC} (v0 v1 v2 v3 : Value) (h : w.ownsRow B 45 4 (.slice (some ⟨g, 0, none⟩) n cap) n (rowC (c0 :: r))) :
    (w.setCells g 0 [v0, v1, v2, v3]).ownsRow B 45 4 (.slice (some ⟨g, 0, none⟩) n cap) n ([v0, v1, v2, v3] ++ rowC r) ∧ w.grownBy (w.setCells g 0 [v0, v1, v2, v3]) (some g) ∧ w.there g 0 4 := by
  obtain ⟨h1, g1⟩ := h.stored 0 v0
  obtain ⟨h2, g2⟩ := h1.stored 1 v1
  obtain ⟨h3, g3⟩ := h2.stored 2 v2
  obtain ⟨h4, g4⟩ := h3.stored 3 v3
  refine ⟨?_, ?_, fun j hj => ?_⟩
  · rw [setCells4]
    exact h4
  · rw [setCells4]
    exact g1.trans (g2.trans (g3.trans g4))
  · have hl := h.1
    have hn : 1 ≤ n := by
      rw [rowC_len, List.length_cons] at hl
      omega
    rw [h.cellAt (0 + j) (by omega), List.getElem?_eq_getElem (by omega)]
    exact ⟨rfl, h.frozenAt _⟩
end Go.Proofs.Jt
