/- slices.AppendSeq, slices.Collect at documents. -/
import Derived.Test.YtcenfckjkboabaaDoorD14
import Derived.Maps.AppendAt
namespace Go.Proofs.Dc
open Go.RowKit Go.Proofs Go.Lib Go.Maps Go.Shelf

attribute [local go_sem] Oper.semAt_some

/-- a document's cells -/
def docCell (d : Doc) : List Value := [.string ⟨d.uri.toArray⟩, .string ⟨d.text.toArray⟩, .int .i64 d.ver]
def docCells (l : List Doc) : List Value := l.flatMap docCell
theorem docCells_snoc (l : List Doc) (d : Doc) : docCells (l ++ [d]) = docCells l ++ docCell d := by simp [docCells]
theorem docCells_length (l : List Doc) : (docCells l).length = l.length * 3 := by
  induction l with
  | nil => rfl
  | cons j t ih =>
    show (docCell j ++ docCells t).length = _
    rw [List.length_append, ih]
    simp [docCell]; omega
theorem docCell_ones (d : Doc) : ∀ u ∈ docCell d, u.oneCell' = true := by
  intro u hu
  simp [docCell] at hu
  rcases hu with rfl | rfl | rfl <;> rfl
theorem infoP {t : TypeId} {z : Option Value} {n m : Nat} (h : (Tryd.prog.info? t).map (fun i => (i.zero, i.size, i.bytes)) = some (z, n, m)) : ∃ i, Tryd.prog.info? t = some i ∧ i.zero = z ∧ i.size = n ∧ i.bytes = m := by
  cases e : Tryd.prog.info? t with
  | none => simp [e] at h
  | some i => simp [e] at h; exact ⟨i, rfl, h.1, h.2.1, h.2.2⟩
theorem info38 : (Tryd.prog.info? 38).map (fun i => (i.zero, i.size, i.bytes)) = some (some (.agg #[.string ⟨#[]⟩, .string ⟨#[]⟩, .int .i64 0]), 3, 40) := by kernel_rfl
/-- a document in a block of its own -/
def DocAt (W : World) (B : Nat) (d : Doc) : Prop := W.heap[B]? = some (.cells #[.string ⟨d.uri.toArray⟩, .string ⟨d.text.toArray⟩, .int .i64 d.ver] 38 (0, 0))
theorem DocAt.cells {W : World} {B : Nat} {d : Doc} (h : DocAt W B d) : W.cell? ⟨B, 0, none⟩ = some (.string ⟨d.uri.toArray⟩) ∧ W.cell? ⟨B, 1, none⟩ = some (.string ⟨d.text.toArray⟩) ∧ W.cell? ⟨B, 2, none⟩ = some (.int .i64 d.ver) := by
  unfold DocAt at h
  refine ⟨?_, ?_, ?_⟩ <;> simp [World.cell?, h]
theorem DocAt.lt {W : World} {B : Nat} {d : Doc} (h : DocAt W B d) : B < W.heap.size := (Array.getElem?_eq_some_iff.1 h).1
theorem newCells (w : World) (d : Doc) : ∀ (j : Nat) u, (docCell d)[j]? = some u → (w.alloc (.cells #[.string ⟨d.uri.toArray⟩, .string ⟨d.text.toArray⟩, .int .i64 d.ver] 38)).cell? ((⟨w.heap.size, 0, none⟩ : Addr).add j) = some u := by
  intro j u hj
  have hb : DocAt (w.alloc (.cells #[.string ⟨d.uri.toArray⟩, .string ⟨d.text.toArray⟩, .int .i64 d.ver] 38)) w.heap.size d := World.alloc_heap_new w _
  obtain ⟨c0, c1, c2⟩ := hb.cells
  have hadd : (⟨w.heap.size, 0, none⟩ : Addr).add j = ⟨w.heap.size, j, none⟩ := by unfold Addr.add; split <;> simp_all
  rw [hadd]
  match j, hj with
  | 0, hj => rw [← Option.some.inj hj]; exact c0
  | 1, hj => rw [← Option.some.inj hj]; exact c1
  | 2, hj => rw [← Option.some.inj hj]; exact c2
  | j + 3, hj => simp [docCell] at hj
theorem ownsRow_succ3 {w : World} {base e : Nat} {v : Value} {k : Nat} {xs : List Value} (h : w.ownsRow base e 3 v (k + 1) xs) : ∃ g cap, v = .slice (some ⟨g, 0, none⟩) (k + 1) cap := by
  rcases h.2 with ⟨_, h0⟩ | ⟨g, cap, cur, h1, _⟩
  · omega
  · exact ⟨g, cap, h1⟩
/-- what the box of the slice holds -/
def ApI (w : World) (pre : List Doc) (W : World) : Prop := (∃ v, Boxed W w.heap.size 45 v ∧ W.ownsRow w.heap.size 38 3 v pre.length (docCells pre) ∧ (v = .slice none 0 0 ↔ pre = [])) ∧ Below w.heap.size w W
theorem apI_own (w : World) : OwnFrom (w.heap.size + 1) (ApI w) :=
  OwnFrom.and (Own.from (holdsRow_own w.heap.size w.heap.size 45 38 3 (fun pre => pre.length) docCells (fun pre v => (v = .slice none 0 0 ↔ pre = []))) _) (ownFrom_below (Nat.le_refl _) (by omega))
/-- where the loop's variable lies -/
def ApA (w : World) (sv : Value) (x : Doc) (a' : Go.Act) (W : World) : Prop := ∃ Bx, w.heap.size < Bx ∧ DocAt W Bx x ∧
  a' = { tmps := #[.slice none 0 0, sv, .pointer (some ⟨w.heap.size, 0, none⟩), undef, .slice none 0 0, .pointer (some ⟨Bx, 0, none⟩), sv, docVal x, undef, undef, undef, undef, undef], defers := [] }
set_option maxRecDepth 100000 in
set_option maxHeartbeats 4000000 in
theorem appendSeq_in (lb : Array Value) (L : List Doc) (hN : L.length ≤ 1000000) (w : World) (hseq : SeqStopsK Fence.wide 4 Tryd.prog 53 lb (fun d => #[docVal d]) KeepsWalks (fun xs => xs.Perm L) (fun _ => True) L.length w) :
    Calls Tryd.prog 63 #[.slice none 0 0, .func (.func 53) #[] lb] w fun e w' => ∃ (v : Value) (ds : List Doc), e = .returned v ∧ ds.Perm L ∧ w'.ownsRow w.heap.size 38 3 v ds.length (docCells ds) ∧ (v = .slice none 0 0 ↔ ds = []) ∧ Below w.heap.size w w' := by
  refine (callsIn_wide (n := 5)).1 ?_
  refine callsIn_of_wp_marks Tryd.func63 rfl trivial ?_ rfl
  simp only [Tryd.ntmps63, List.size_toArray, List.length_cons, List.length_nil, Nat.reduceAdd, Nat.reduceSub, Array.replicate_succ, Array.replicate_zero, List.push_toArray, List.append_toArray, List.nil_append, List.cons_append]
  gi_wp2
  obtain ⟨W0, hW0⟩ : ∃ W0, w.alloc (.cells #[.slice none 0 0] 45) = W0 := ⟨_, rfl⟩
  have hB0 : Below w.heap.size w W0 := by rw [← hW0]; exact (Below.refl _ w).alloc (Nat.le_refl _) _
  have hbx : Boxed W0 w.heap.size 45 (.slice none 0 0) := by rw [← hW0]; exact Boxed.new w 45 _
  have hsz : W0.heap.size = w.heap.size + 1 := by rw [← hW0]; simp
  rw [hW0]
  clear hW0
  refine wpIn_rangeFunc_ownH rfl (by omega) (gf := 53) (lb := lb) rfl trivial (enters_of Tryd.func53 (by kernel_rfl) rfl)
    hseq walksK_t walksK_b hB0 (fun _ => rfl) (ApI w) (fun _ _ _ => False)
    (OwnFrom.and (Own.from (holdsRow_own w.heap.size w.heap.size 45 38 3 (fun pre => pre.length) docCells (fun pre v => (v = .slice none 0 0 ↔ pre = []))) _) (ownFrom_below (Nat.le_refl _) (by omega)))
    (fun _ _ _ _ _ hs _ _ => hs)
    ⟨⟨_, hbx, ⟨rfl, .inl ⟨rfl, rfl⟩⟩, by simp⟩, hB0⟩
    (ApA w (.func (.func 53) #[] lb)) ?hAx ?assign ?body ?done ?stop
  case hAx =>
    rintro x a' _ A B row ⟨Bx, h1, h2, h3⟩ hg hr
    refine ⟨Bx, h1, (hg.block Bx h2.lt fun e => ?_).trans h2, h3⟩
    obtain ⟨_, o, ho, hc⟩ := hr Bx e.symm
    rw [show A.heap[Bx]? = _ from h2] at ho
    cases ho
    cases hc
  case assign =>
    rintro l pre x W K hi hK
    have hBW := hi.2
    unfold docVal
    gi_wp2
    exact hK _ _ ((KeepsOthers.alloc _ _).from _) (KeepsWalks.alloc _ _) ((apI_own w).alloc _ hi) ⟨W.heap.size, by have := hi.1; obtain ⟨v, hv, _⟩ := this; exact hv.lt, World.alloc_heap_new W _, rfl⟩
  case body =>
    rintro l pre x a' W hl ⟨r, hr⟩ ⟨⟨v, hv, hrow, hnil⟩, hB⟩ ⟨Bx, hBx, hd, rfl⟩ hlt
    obtain ⟨i0, hi, hz0, hz1, hz2⟩ := infoP info38
    obtain ⟨c0, c1, c2⟩ := hd.cells
    have hcv := hv.cell
    have hzB := hB.size
    gi_wp2_with (first
      | (gi_at_builtin; refine wpListIn_append_own _ rfl _ _ 45 rfl w.heap.size 38 i0 _ 3 40 Tryd.underlying45 hi hz0 hz1 hz2 rfl (by decide) _ _ _ rfl (hrow.alloc _) ⟨W.heap.size, 0, none⟩ 1 1 (docCell x) rfl rfl (newCells W x) (docCell_ones x) (by unfold maxLen; omega) (by omega) (by simp; omega) ?_; intro v' w1 hown' hgrow hnil'
         obtain ⟨g', cap', rfl⟩ := ownsRow_succ3 hown'
         obtain ⟨hv1, hv2, hr2, hk2, hb2⟩ := hv.appended (by decide) hrow hB.size (Nat.le_refl _) hown' hgrow
         have hc1 := hv1.cell
         have hf1 := hv1.frozen))
    refine ⟨hk2.from _, hk2.walks, ⟨_, hv2, ?_, by simp⟩, hB.trans hb2⟩
    rw [List.length_append, List.length_singleton, docCells_snoc]
    exact hr2
  case done =>
    rintro D ds W hD hS ⟨⟨v, hv, hrow, hnil⟩, hB⟩ hK
    have hcv := hv.cell
    gi_wp2
    refine ⟨by simp, .inl ⟨_, _, rfl, run_takeDeferred hK, ?_⟩⟩
    exact ⟨_, results_tmp rfl _ _ _, v, ds, rfl, hS, ownsRow_putObj hrow _ hK rfl, hnil, hB.trans (belowK_b (w := w) (Nat.le_refl _) W D _ _ (by omega) hK rfl rfl)⟩
  case stop =>
    rintro D c pre W hD _ h _
    exact h.elim
set_option maxHeartbeats 1000000 in
theorem collect_any (lb : Array Value) (L : List Doc) (hN : L.length ≤ 1000000) (w : World) (hseq : SeqStopsK Fence.wide 4 Tryd.prog 53 lb (fun d => #[docVal d]) KeepsWalks (fun xs => xs.Perm L) (fun _ => True) L.length w) :
    Calls Tryd.prog 51 #[.func (.func 53) #[] lb] w fun e w' => ∃ (v : Value) (ds : List Doc), e = .returned v ∧ ds.Perm L ∧ w'.ownsRow w.heap.size 38 3 v ds.length (docCells ds) ∧ (v = .slice none 0 0 ↔ ds = []) ∧ Below w.heap.size w w' := by
  have ha := appendSeq_in lb L hN w hseq
  go_enter Tryd.func51, Tryd.ntmps51
  go_wp2_with (first | (go_at_call 63; refine ha.mono ?_; rintro e w' ⟨v, ds, rfl, h1, h2, h3, h4⟩))
  go_ret
  exact ⟨v, ds, rfl, h1, h2, h3, h4⟩
end Go.Proofs.Dc
