/- Pending: the ids that are pending, in the order in which they were pushed. -/
import Derived.Test.YtkejopmohnfpgaaP2
namespace Go.Proofs.Ytkejopmohnfpgaa
open Go.RowKit Go.Maps Go.Lib Go.Sort

theorem ptr_shape {v : Value} {y : DataW Unit × List MemPlace} (h : ptrElem v = some y) : ∃ a : Option Addr, v = .pointer a := by
  unfold ptrElem at h
  split at h
  · exact ⟨_, rfl⟩
  · exact ⟨_, rfl⟩
  · cases h
theorem jobs_size {B : Nat} {w : World} {qb mb : Nat} {lv : Value} {s : QS} (_H : Qi B w qb mb lv s) {D : DataW Unit} (hown : w.ownsMap Try.prog 9 ptrElem mb s.pushed D) : Maps.size D ≤ s.pushed := World.ownsMap.size_le hown

set_option maxHeartbeats 1000000 in
theorem sort_jobs {B : Nat} {W0 : World} {qb mb Bq : Nat} {lv : Value} {s : QS} (H0 : Qi B W0 qb mb lv s) (hs : Rising s.L) (cbox : W0.cell? ⟨Bq, 0, none⟩ = some (.pointer (some ⟨qb, 0, none⟩))) (hBq : Bq < W0.heap.size)
    {wr : World} {v : Value} {ss : List (List UInt8)} (hrow : wr.ownsRow W0.heap.size 9 1 v ss.length (ss.map encStr)) (hnn : v = .slice none 0 0 → ss = []) (hn : ss.Nodup) (hm : ∀ x, x ∈ ss ↔ ∃ j ∈ s.L, j.id.data.toList = x) (hnx : Below W0.heap.size W0 wr) (hfew : ss.length ≤ 1000000) :
    Calls Try.prog 32 #[v, .func (.func 33) #[] #[.pointer (some ⟨Bq, 0, none⟩)]] wr fun e w' => e = .returned (.tuple #[]) ∧ w'.ownsRow W0.heap.size 9 1 v s.L.length (s.L.map (fun j => Value.string j.id)) ∧ Below W0.heap.size W0 w' := by
  obtain ⟨ds, hp, hmap, hlen⟩ := collected_jobs H0.apart hn hm
  have hL : s.L.length = ds.length := by rw [hp.length_eq]; simp
  have hLa : s.L.attach.map (enIn s.L) = s.L.map (fun j => Value.string j.id) := by
    rw [show enIn s.L = (fun j : J => Value.string j.id) ∘ Subtype.val from rfl, ← List.map_map, List.attach_map_subtype_val]
  by_cases h0 : s.L = []
  · have hss : ss = [] := List.length_eq_zero_iff.1 (by rw [← hlen, ← hL, h0]; rfl)
    subst hss
    obtain ⟨p, cap, rfl⟩ := line_shape hrow
    refine (Try.slices_SortFunc_none (α := Nat) p cap _ wr).mono ?_
    rintro e w' ⟨rfl, rfl⟩
    exact ⟨rfl, by rw [h0]; exact hrow, hnx⟩
  · obtain ⟨j0, hj0⟩ := List.exists_mem_of_ne_nil _ h0
    have : Inhabited (InL s.L) := ⟨⟨j0, hj0⟩⟩
    have hne : ss ≠ [] := fun e => by
      subst e
      have : s.L.length = 0 := by rw [hL, hlen]; rfl
      exact h0 (List.length_eq_zero_iff.1 this)
    rcases hrow.2 with ⟨hnil, _⟩ | ⟨g, cap, cur, rfl, hbase, hb, h1, h2, h3, h4⟩
    · exact absurd (hnn hnil) hne
    have hgl : g < wr.heap.size := (Array.getElem?_eq_some_iff.1 hb).1
    have hlr : ds.toArray.size = ss.length := by simp [hlen]
    have hH : Holds (enIn s.L) wr g 0 ds.toArray := by
      intro j hj
      have hj' : j < ds.length := by simpa using hj
      refine ⟨?_, by simp [World.frozen?, hb]⟩
      have e1 : (cur.toList.take (ss.length * 1))[j]? = (ds.map (enIn s.L))[j]? := by rw [h4, hmap]
      rw [Nat.mul_one, List.getElem?_take_of_lt (by omega)] at e1
      simp only [World.cell?, hb, Nat.zero_add]
      simp only [Option.isSome_none, Bool.false_eq_true, if_false]
      rw [← Array.getElem?_toList, e1]
      simp [hj']
    have hbel : ∀ m (dk : Array (InL s.L)) os, Below W0.heap.size W0 (sortWorld (enIn s.L) wr g 0 m dk os) := fun m dk os => hnx.grown (sorted_grown dk) hnx.size (fun j hj => by cases hj; exact hbase)
    have hcmp : CmpLays1 Try.prog 33 #[.pointer (some ⟨Bq, 0, none⟩)] (enIn s.L) (cfIn s.L) g 0 ds.toArray.size wr := by
      refine CmpReads.lays fun m os dk _ x y => ?_
      have hb2 := hbel m dk os
      have H1 := H0.below hb2
      obtain ⟨c0, c1, c2, c3, c4⟩ := H1.cells
      obtain ⟨D, hown, hD⟩ := H1.map
      obtain ⟨jx, _, _⟩ := H1.jobs x.1 x.2
      obtain ⟨jy, _, _⟩ := H1.jobs y.1 y.2
      have cb : (sortWorld (enIn s.L) wr g 0 m dk os).cell? ⟨Bq, 0, none⟩ = some (.pointer (some ⟨qb, 0, none⟩)) := by
        rw [← cbox]
        simp only [World.cell?, hb2.block Bq hBq]
      exact closure_any _ qb mb Bq s.pushed D s.L cb c2 hown hD x.1 y.1 x.2 y.2 (cell_of_row _ _ 1 _ _ _ jx) (cell_of_row _ _ 1 _ _ _ jy) (H1.ids _ x.2) (H1.ids _ y.2)
    have hc := Try.slices_SortFunc_total (enIn s.L) (fun _ => rfl) (cfIn s.L) (swoIn s.L) 33 #[.pointer (some ⟨Bq, 0, none⟩)] g 0 cap ds.toArray wr (enters_of Try.func33 (by kernel_rfl) rfl) hcmp hH hgl (by rw [hlr]; omega) (totIn hs)
    rw [hlr] at hc
    refine hc.mono ?_
    rintro e w' ⟨rfl, m, os, rfl⟩
    rw [sort_attach hs hp]
    refine ⟨rfl, ⟨by simp, .inr ⟨g, cap, _, by rw [hL, hlen], hbase, sorted_heap _ hb, by omega, h2, by simp [putCells, h3], ?_⟩⟩, hbel _ _ _⟩
    rw [Nat.mul_one, ← hLa, show s.L.length = s.L.attach.length by simp]
    exact sorted_take cur s.L.attach (by simp; omega)

set_option maxRecDepth 100000 in
set_option maxHeartbeats 1600000 in
theorem pending_any {B : Nat} {w : World} {qb mb : Nat} {lv : Value} {s : QS} (H : Qi B w qb mb lv s) (hs : Rising s.L) :
    Calls Try.prog 19 #[.pointer (some ⟨qb, 0, none⟩)] w fun e w' => ∃ v, e = .returned v ∧ w'.ownsRow w.heap.size 9 1 v s.L.length (s.L.map (fun j => Value.string j.id)) ∧ Below w.heap.size w w' := by
  obtain ⟨i0, hi, hz0, hz1, hz2⟩ := info_parts info9
  obtain ⟨W0, hW0⟩ : ∃ W0, w.alloc (.cells #[.pointer (some ⟨qb, 0, none⟩)] 22) = W0 := ⟨_, rfl⟩
  have hB0 : Below w.heap.size w W0 := by rw [← hW0]; exact (Below.refl _ w).alloc (Nat.le_refl _) _
  have H0 : Qi B W0 qb mb lv s := H.below hB0
  have hz : w.heap.size < W0.heap.size := by rw [← hW0]; simp
  have hbox : W0.heap[w.heap.size]? = some (.cells #[.pointer (some ⟨qb, 0, none⟩)] 22 (0, 0)) := by rw [← hW0]; exact Array.getElem?_push_size
  have cbox : W0.cell? ⟨w.heap.size, 0, none⟩ = some (.pointer (some ⟨qb, 0, none⟩)) := by simp [World.cell?, hbox]
  obtain ⟨c0, c1, c2, c3, c4⟩ := H0.cells
  obtain ⟨D, hown, hD⟩ := H0.map
  have hbl := hown.lt
  have hsz := jobs_size H0 hown
  have hfew := H0.few
  go_enter Try.func19, Try.ntmps19
  go_wp2_with (first
    | (go_at_call 22; refine (is_yes H0).mono ?_; rintro e w' ⟨rfl, hw⟩; subst hw)
    | (at_range; refine wpList_range_own _ rfl _ 50 rfl 9 53 law9 Try.underlying50 ptrElem mb s.pushed D rfl hown ?_; intro w0 hrg0 hg0 hs0))
  go_frame
  go_loopw [3] (fun v wr => ∃ (left : Lit → Bool) (cnt : Nat) (ss : List (List UInt8)), wr.ranges Try.prog 9 ptrElem mb W0.heap.size s.pushed D left cnt ∧ ss.length + cnt ≤ Maps.size D ∧
      wr.ownsRow W0.heap.size 9 1 v ss.length (ss.map encStr) ∧ (v = .slice none 0 0 → ss = []) ∧ Collected D left ss ∧ Below W0.heap.size W0 wr)
    (fun _ wr => wr.rangeLeft mb W0.heap.size)
  case atStart =>
    exact ⟨_, _, [], hrg0, by simp, World.ownsRow_nil _ _ _ _, fun _ => rfl, Collected.start D, (Below.refl _ _).grown hg0 (Nat.le_refl _) (fun j hj => by cases hj)⟩
  case round =>
    obtain ⟨left, cnt, ss, hrg, hcs, hrow, hnn, hC, hnx⟩ := hrel
    go_wp2_with (first
      | (at_next; refine wpList_next_ranges _ rfl _ rfl 9 law9 ptrElem encStr (fun a : Option Addr => Value.pointer a) (fun key kl hk => by obtain ⟨x, hx, _⟩ := Maps.keyOf_str Try.underlying9 hk; exact ⟨x, hx⟩) (fun v y hv => ptr_shape hv) mb W0.heap.size s.pushed _ _ _ rfl hrg ?_ ?_))
    · intro hc0 hl0
      have hm : ∀ x, x ∈ ss ↔ ∃ j ∈ s.L, j.id.data.toList = x := fun x => by
        rw [hC.2 x, hl0]
        have hx : Lit.string x = key ⟨x.toArray⟩ := by simp [key]
        rw [hx, hD.has]
        constructor
        · rintro ⟨h1, _⟩
          obtain ⟨j, hj, e⟩ := hasL_true h1
          exact ⟨j, hj, by rw [e]⟩
        · rintro ⟨j, hj, e⟩
          refine ⟨List.any_eq_true.2 ⟨j, hj, decide_eq_true ?_⟩, rfl⟩
          rw [← e]
      have hc := sort_jobs H0 hs cbox hz hrow hnn hC.1 hm hnx (by omega)
      clear hm hC hcs hrow hnn
      go_wp2_with (go_at_call 32; refine hc.mono ?_; rintro e w' ⟨rfl, hown', hbel⟩)
      go_ret
      exact ⟨_, rfl, own_base hown' (Nat.le_of_lt hz), hB0.trans (hbel.mono (Nat.le_of_lt hz))⟩
    · intro x c kl yd yp w2 cnt2 hkey hlk hv hat hrg2 hlt hg2 hs2 hen
      obtain ⟨x', ex, rfl, _⟩ := Maps.keyOf_str Try.underlying9 hkey
      obtain rfl : x = x' := encStr_inj ex
      have hrow2 := hrow.kept hg2 (Or.inr (row_ne_iter hrow hrg).symm)
      clear hs2
      go_wp2_with (first
        | (at_builtin; refine wpList_append_own _ rfl (.tmp 17) (.tmp 19) 33 rfl W0.heap.size 9 i0 (.string ⟨#[]⟩) 1 16 Try.underlying33 hi hz0 hz1 hz2 rfl (by decide) _ _ _ rfl (hrow2.alloc _) ⟨w2.heap.size, 0, none⟩ 1 1 [encStr x] rfl rfl (cell_one_new _ _ _) (by simp [Value.oneCell', encStr]) (by unfold maxLen at *; omega) (by omega) (by have := hnx.size; have := hg2.size; simp; omega) ?_; intro v' w3 hown' hg3 hnil3; go_frame))
      have hrg3 := (hrg2.alloc _).kept hg3 (row_ne_low hrow2 hbl) (row_ne_iter hrow2 hrg2)
      go_roundw
      case rel =>
        refine ⟨_, cnt2, ss ++ [x], hrg3, by simp; omega, by simpa using hown', fun hv' => by have := (hnil3.1 hv').2; omega, hC.step hlk hat, ?_⟩
        exact ((hnx.grown hg2 hnx.size (fun j hj => by cases hj; exact Nat.le_refl _)).alloc (by have := hnx.size; have := hg2.size; omega) _).grown hg3 (by have := hnx.size; have := hg2.size; simp; omega) (fun j hj => (hrow2.lt j hj).1)
      case measure => rw [hrg3.left_eq, hrg.left_eq]; exact hlt
end Go.Proofs.Ytkejopmohnfpgaa
