/- The walk of frame.Reader's Next. -/
import Derived.Test.YtebppgokcmeedaaDoorF4
import Derived.Defers
import Derived.StillTailTactics
namespace Go.Proofs.Fr
open Go.RowKit Go.Proofs Go.Lib

set_option maxRecDepth 100000 in
theorem door_any (eb rb b : Nat) (ev : Int) (h : ByteArray) (w : World) (he : w.cell? ⟨eb, 0, none⟩ = some (.int .i64 ev)) (hr : w.cell? ⟨rb, 0, none⟩ = some (.pointer (some ⟨b, 0, none⟩))) (r : RD w b h false) :
    CallsD Tryd.prog 26 #[.pointer (some ⟨eb, 0, none⟩), .pointer (some ⟨rb, 0, none⟩)] .returning w fun e u w' => u = .returning ∧ (e = .returned (.tuple #[]) ∧ w' = w.setCell ⟨b, 2, none⟩ (.bool (ev != 0))) := by
  obtain ⟨c0, c1, c2, cf⟩ := r.cells
  clear r
  go_enter_d Tryd.func26, Tryd.ntmps26
  go_wp2
  go_end0
  exact ⟨rfl, rfl⟩
set_option maxRecDepth 100000 in
theorem next_broken (w : World) (b : Nat) (h : ByteArray) (r : RD w b h true) : Calls Tryd.prog 13 #[.pointer (some ⟨b, 0, none⟩)] w fun e w' => e = .returned (.tuple #[.string ⟨#[]⟩, .bool false, .int .i64 4]) ∧ Below w.heap.size w w' := by
  have hs := fun w r => state_any w b h true r
  have hmf : ∀ (fn : Fn) (first cap : Array Value) (w : World), (Instr.makeFunc fn first cap).run Tryd.prog w = .ok (.func fn first cap) w := fun _ _ _ _ => rfl
  have R := Lib.hid r
  clear r
  go_enter_defers Tryd.func13, Tryd.ntmps13
  go_wp2_with (first | (go_at_call 24; refine (hs _ (R.out.below (((Below.refl _ _).alloc (Nat.le_refl _) _).alloc (by simp) _))).mono ?_; rintro e w1 ⟨rfl, hw⟩; subst hw))
  exact ⟨.tuple #[.string ⟨#[]⟩, .bool false, .int .i64 4], by simp [results, Tryd.results13, go_sem], rfl, ((Below.refl _ _).alloc (Nat.le_refl _) _).alloc (by simp) _⟩
set_option maxRecDepth 100000 in
theorem door_end {Q : Ending → World → Prop} (T : Array Value) (U : World) (eb rb b : Nat) (B : ByteArray) (ok : Bool) (ev : Int) (h' : ByteArray)
    (h2 : T[2]? = some (.string B)) (h3 : T[3]? = some (.bool ok)) (h4 : T[4]? = some (.pointer (some ⟨eb, 0, none⟩)))
    (he : U.cell? ⟨eb, 0, none⟩ = some (.int .i64 ev)) (hr : U.cell? ⟨rb, 0, none⟩ = some (.pointer (some ⟨b, 0, none⟩))) (r : RD U b h' false) (hne : eb ≠ b)
    (hQ : Q (.returned (.tuple #[.string B, .bool ok, .int .i64 ev])) (U.setCell ⟨b, 2, none⟩ (.bool (ev != 0)))) :
    bodyPostD Tryd.prog Tryd.f13 Q .ret { tmps := T, defers := [{ target := .fn (.func 26) #[.pointer (some ⟨eb, 0, none⟩), .pointer (some ⟨rb, 0, none⟩)], args := #[] }] } U := by
  refine leaves_cons (f := 26) (args := #[.pointer (some ⟨eb, 0, none⟩), .pointer (some ⟨rb, 0, none⟩)]) (by simp) (by simp [go_sem]) ?_
  refine (door_any eb rb b ev h' U he hr r).mono ?_
  rintro e u' w'' ⟨rfl, rfl, rfl⟩
  have he2 : (U.setCell ⟨b, 2, none⟩ (.bool (ev != 0))).cell? ⟨eb, 0, none⟩ = some (.int .i64 ev) := by
    rw [World.cell?_setCell_other _ _ _ _ (by intro x; exact hne (congrArg Addr.block x).symm)]
    exact he
  refine ⟨.tuple #[.string B, .bool ok, .int .i64 ev], ?_, hQ⟩
  simp [results, Tryd.results13, go_sem, h2, h3, h4, he2]
def nxVal (r : Nxt) : Value := .tuple #[.string ⟨r.body.toArray⟩, .bool r.ok, .int .i64 (r.err : Nat)]
/-- what Next has in memory behind the defer -/
structure DW (w : World) (b : Nat) (U : World) (ev : Int) (h' : ByteArray) : Prop where
  ce : U.heap[w.heap.size + 1]? = some (.cells #[.int .i64 ev] 31 (0, 0))
  cr : U.heap[w.heap.size]? = some (.cells #[.pointer (some ⟨b, 0, none⟩)] 23 (0, 0))
  rd : RD U b h' false
  gb : w.grownBy U (some b)
  mx : MaxV U
  lt : b < w.heap.size
theorem set_one {U : World} {k : Nat} {v : Value} {t : TypeId} (h : U.heap[k]? = some (.cells #[v] t (0, 0))) (u : Value) : (U.setCell ⟨k, 0, none⟩ u).heap[k]? = some (.cells #[u] t (0, 0)) := by
  obtain ⟨hlt, hk⟩ := Array.getElem?_eq_some_iff.1 h
  show (U.heap.modify k _)[k]? = _
  rw [Array.getElem?_eq_getElem (by rw [Array.size_modify]; exact hlt), Array.getElem_modify_self, hk]
  rfl
theorem set_far {U : World} {k j : Nat} {o : Obj} (h : U.heap[j]? = some o) (hne : j ≠ k) (i : Nat) (u : Value) : (U.setCell ⟨k, i, none⟩ u).heap[j]? = some o := (Below.heap_setCell U ⟨k, i, none⟩ u j hne).trans h
theorem MaxV.set {U : World} (h : MaxV U) {k : Nat} (hk : 0 < k) (i : Nat) (u : Value) : MaxV (U.setCell ⟨k, i, none⟩ u) := h.grown (gb_set U k i u) (by omega)
theorem DW.setE {w : World} {b : Nat} {U : World} {ev : Int} {h' : ByteArray} (d : DW w b U ev h') (m : Int) : DW w b (U.setCell ⟨w.heap.size + 1, 0, none⟩ (.int .i64 m)) m h' := by
  have hl := d.lt
  refine ⟨set_one d.ce _, set_far d.cr (by omega) _ _, set_far d.rd (by omega) _ _, ?_, d.mx.set (by omega) _ _, hl⟩
  exact ⟨d.gb.os, d.gb.tape, d.gb.output, by have := d.gb.size; simpa using this, fun k hk hne => (Below.heap_setCell U _ _ k (by simp; omega)).trans (d.gb.block k hk hne)⟩
theorem DW.setH {w : World} {b : Nat} {U : World} {ev : Int} {h' : ByteArray} (d : DW w b U ev h') (hb : 0 < b) (h2 : ByteArray) : DW w b (U.setCell ⟨b, 0, none⟩ (.string h2)) ev h2 := by
  have hl := d.lt
  exact ⟨set_far d.ce (by omega) _ _, set_far d.cr (by omega) _ _, d.rd.set0 h2, d.gb.trans (gb_set _ _ _ _), d.mx.set hb _ _, hl⟩
theorem DW.below {w : World} {b : Nat} {U U' : World} {ev : Int} {h' : ByteArray} (d : DW w b U ev h') (hb : Below U.heap.size U U') : DW w b U' ev h' :=
  ⟨(hb.block _ (Array.getElem?_eq_some_iff.1 d.ce).1).trans d.ce, (hb.block _ (Array.getElem?_eq_some_iff.1 d.cr).1).trans d.cr, d.rd.below hb, d.gb.trans (gb_below hb), d.mx.below hb, d.lt⟩
theorem DW.cells {w : World} {b : Nat} {U : World} {ev : Int} {h' : ByteArray} (d : DW w b U ev h') : U.cell? ⟨w.heap.size + 1, 0, none⟩ = some (.int .i64 ev) ∧ U.frozen? ⟨w.heap.size + 1, 0, none⟩ = false ∧ U.cell? ⟨w.heap.size, 0, none⟩ = some (.pointer (some ⟨b, 0, none⟩)) ∧ U.cell? ⟨b, 0, none⟩ = some (.string h') ∧ U.frozen? ⟨b, 0, none⟩ = false :=
  ⟨by rw [cell_of_row _ _ 0 _ _ _ d.ce]; rfl, by have := d.ce; simp [World.frozen?, this], by rw [cell_of_row _ _ 0 _ _ _ d.cr]; rfl, d.rd.cells.1, d.rd.cells.2.2.2 0⟩
theorem DW.close {w : World} {b : Nat} {U : World} {ev : Int} {h' : ByteArray} (d : DW w b U ev h') {N : Nxt} {B : ByteArray} {ok : Bool} {er : Nat} (hN : N = ⟨B.data.toList, ok, er, h'.data.toList⟩) (hev : ev = er) (T : Array Value)
    (h2 : T[2]? = some (.string B)) (h3 : T[3]? = some (.bool ok)) (h4 : T[4]? = some (.pointer (some ⟨w.heap.size + 1, 0, none⟩))) :
    bodyPostD Tryd.prog Tryd.f13 (fun e w' => e = .returned (nxVal N) ∧ RD w' b ⟨N.held.toArray⟩ (decide (N.err ≠ 0)) ∧ w.grownBy w' (some b)) .ret { tmps := T, defers := [{ target := .fn (.func 26) #[.pointer (some ⟨w.heap.size + 1, 0, none⟩), .pointer (some ⟨w.heap.size, 0, none⟩)], args := #[] }] } U := by
  have hl := d.lt
  obtain ⟨c1, _, c2, _, _⟩ := d.cells
  refine door_end T U (w.heap.size + 1) w.heap.size b B ok ev h' h2 h3 h4 c1 c2 d.rd (by omega) ⟨?_, ?_, d.gb.trans (gb_set _ _ _ _)⟩
  · rw [hN, hev]; rfl
  · rw [hN]
    have e : (ev != 0) = decide (er ≠ 0) := by
      rw [hev]
      by_cases h : er = 0
      · subst h; rfl
      · rw [decide_eq_true h]
        simpa using h
    rw [e]
    exact d.rd.set2 _
set_option maxRecDepth 100000 in
set_option maxHeartbeats 4000000 in
theorem next_any (w : World) (hT : MaxV w) (b : Nat) (hb0 : 0 < b) (h : ByteArray) (hs : h.size ≤ 4194304) (r : RD w b h false) : Calls Tryd.prog 13 #[.pointer (some ⟨b, 0, none⟩)] w fun e w' =>
    e = .returned (nxVal (nextV h.data.toList)) ∧ RD w' b ⟨(nextV h.data.toList).held.toArray⟩ (decide ((nextV h.data.toList).err ≠ 0)) ∧ w.grownBy w' (some b) := by
  have hst := fun w r => state_any w b h false r
  have hmf : ∀ (fn : Fn) (first cap : Array Value) (w : World), (Instr.makeFunc fn first cap).run Tryd.prog w = .ok (.func fn first cap) w := fun _ _ _ _ => rfl
  obtain ⟨N, hN⟩ : ∃ N, nextV h.data.toList = N := ⟨_, rfl⟩
  rw [hN]
  have HN := Lib.hid hN
  have R := Lib.hid r
  have hb1 : b < w.heap.size := r.lt
  clear r hN
  -- the first end
  obtain ⟨H, hH⟩ : ∃ H : ByteArray, h.extract 0 (min h.size 1024) = H := ⟨_, rfl⟩
  have hHl : H.data.toList = h.data.toList.take 1024 := by
    rw [← hH, Lib.extract_data, List.drop_zero, Nat.sub_zero, Lib.size_eq]
    rcases Nat.le_total h.data.toList.length 1024 with g | g
    · rw [Nat.min_eq_left g, List.take_of_length_le (Nat.le_refl _), List.take_of_length_le g]
    · rw [Nat.min_eq_right g]
  have hHs : H.size ≤ 1024 := by rw [← hH, ByteArray.size_extract]; omega
  have hix : ∀ (w : World), MaxV w → Calls Tryd.prog 27 #[.string H, .string ⟨#[13, 10, 13, 10]⟩] w fun e w' => e = .returned (.int .i64 (endAt h.data.toList)) ∧ w' = w := by
    rintro w ⟨m, hm⟩
    have := Tryd.strings_Index H ⟨#[13, 10, 13, 10]⟩ m w (by omega) hm
    rw [hHl] at this
    exact this
  go_enter_defers Tryd.func13, Tryd.ntmps13
  go_wp2_with (first | (go_at_call 24; refine (hst _ (R.out.below (((Below.refl _ _).alloc (Nat.le_refl _) _).alloc (by simp) _))).mono ?_; rintro e w1 ⟨rfl, hw⟩; subst hw))
  have xr : ((w.alloc (.cells #[.pointer (some ⟨b, 0, none⟩)] 23)).alloc (.cells #[.int .i64 0] 31)).heap[w.heap.size]? = some (.cells #[.pointer (some ⟨b, 0, none⟩)] 23 (0, 0)) := alloc_keep (alloc_new _ _ _ rfl)
  have xe : ((w.alloc (.cells #[.pointer (some ⟨b, 0, none⟩)] 23)).alloc (.cells #[.int .i64 0] 31)).heap[w.heap.size + 1]? = some (.cells #[.int .i64 0] 31 (0, 0)) := alloc_new _ _ _ (by simp)
  have xb : Below w.heap.size w ((w.alloc (.cells #[.pointer (some ⟨b, 0, none⟩)] 23)).alloc (.cells #[.int .i64 0] 31)) := ((Below.refl _ _).alloc (Nat.le_refl _) _).alloc (by simp) _
  generalize (w.alloc (.cells #[.pointer (some ⟨b, 0, none⟩)] 23)).alloc (.cells #[.int .i64 0] 31) = V at xr xe xb ⊢
  have vR := R.out.below xb
  have vM := hT.below xb
  obtain ⟨c0, c1, c2, cf⟩ := vR.cells
  have kr : V.cell? ⟨w.heap.size, 0, none⟩ = some (.pointer (some ⟨b, 0, none⟩)) := by rw [cell_of_row _ _ 0 _ _ _ xr]; rfl
  have he : h.extract 0 (min (h.size : Int) 1024).toNat = H := by
    rw [← hH]
    congr 1
    omega
  have hq27 : ∀ n, Calls Tryd.prog 27 #[.string H, .string ⟨#[13, 10, 13, 10]⟩] (V.drewN n) fun e w'' => e = .returned (.int .i64 (endAt h.data.toList)) ∧ ∃ m, w'' = V.drewN m := fun n => (hix _ (vM.below (below_draws (Below.refl _ _) n))).mono fun e w' h => ⟨h.1, n, h.2⟩
  have b1 : (0 : Int) ≤ min (h.size : Int) 1024 := by omega
  have b2 : min (h.size : Int) 1024 ≤ (h.size : Int) := by omega
  obtain ⟨at_, hat⟩ : ∃ a, endAt h.data.toList = a := ⟨_, rfl⟩
  simp only [hat] at hq27
  have HAT := Lib.hid hat
  clear hix hst hH hat
  go_big_quiet ((exact hq27 _))
  have d0 : DW w b V 0 h := ⟨xe, xr, vR, gb_below xb, vM, hb1⟩
  have d : DW w b (V.drewN nq) 0 h := d0.below (below_draws (Below.refl _ _) nq)
  clear xr xe xb vR vM c0 c1 c2 cf kr hq27 he b1 b2 d0
  generalize V.drewN nq = U at d ⊢
  obtain ⟨ke, kf, kr, kh, kg⟩ := d.cells
  by_cases ha : at_ < 0
  · have hn1 : N = ⟨[], false, if 1024 ≤ h.data.toList.length then 4 else 0, h.data.toList⟩ := by
      rw [← HN.out]; unfold nextV; rw [if_pos (by rw [HAT.out]; exact ha)]
    by_cases hg : 1024 ≤ h.size
    · rw [if_pos (by rw [← Lib.size_eq]; exact hg)] at hn1
      have HN1 := Lib.hid hn1
      have u1 : (1024 : Int) ≤ (h.size : Int) := by omega
      clear hn1
      go_wp2
      have d2 := d.setE 4
      clear ke kf kr kh kg
      generalize U.setCell ⟨w.heap.size + 1, 0, none⟩ (.int .i64 4) = U2 at d2 ⊢
      obtain ⟨ke, kf, kr, kh, kg⟩ := d2.cells
      go_still_tail 3, (by kernel_rfl)
      change wpList _ _ _ _ _ U2.drew
      have d3 := d2.below ((Below.refl U2.heap.size U2).drew)
      clear ke kf kr kh kg
      generalize U2.drew = U3 at d3 ⊢
      obtain ⟨ke, kf, kr, kh, kg⟩ := d3.cells
      go_wp2
      have d4 := d3.setE 4
      exact d4.close (B := ⟨#[]⟩) (ok := false) (er := 4) HN1.out rfl _ rfl rfl rfl
    · rw [if_neg (by rw [← Lib.size_eq]; exact hg)] at hn1
      have HN1 := Lib.hid hn1
      have u1 : ¬ (1024 : Int) ≤ (h.size : Int) := by omega
      clear hn1
      go_wp2
      go_still_tail 3, (by kernel_rfl)
      change wpList _ _ _ _ _ U.drew
      have d3 := d.below ((Below.refl U.heap.size U).drew)
      clear ke kf kr kh kg
      generalize U.drew = U3 at d3 ⊢
      obtain ⟨ke, kf, kr, kh, kg⟩ := d3.cells
      go_wp2
      have d4 := d3.setE 0
      exact d4.close (B := ⟨#[]⟩) (ok := false) (er := 0) HN1.out rfl _ rfl rfl rfl
  · obtain ⟨i, rfl⟩ : ∃ i : Nat, at_ = i := ⟨at_.toNat, by omega⟩
    have hroom : i + 4 ≤ h.size := by
      rcases end_at h.data.toList with ⟨g1, _⟩ | ⟨k, g1, _, g3, _⟩
      · rw [HAT.out] at g1; omega
      · rw [HAT.out] at g1
        rw [← Lib.size_eq] at g3
        omega
    have hhd := fun w hw => head_any (h.extract 0 i) w hw (by rw [ByteArray.size_extract]; omega)
    have hx : (h.extract 0 i).data.toList = h.data.toList.take i := by rw [Lib.extract_data, List.drop_zero, Nat.sub_zero]
    rw [hx] at hhd
    obtain ⟨n, hn⟩ : ∃ n, headL (h.data.toList.take i) = n := ⟨_, rfl⟩
    simp only [hn] at hhd
    have hN2 := HN.out
    unfold nextV at hN2
    rw [HAT.out, if_neg (by omega)] at hN2
    simp only [Int.toNat_natCast] at hN2
    rw [hn] at hN2
    have hnl : n < 1000000000000000000 := by rw [← hn]; exact headGo_lt _ _ _ (by omega)
    have i0 : (i : Int) ≤ (h.size : Int) := by omega
    clear hn hx ha HN HAT
    by_cases h1 : n < 0
    · rw [if_pos h1] at hN2
      have HN1 := Lib.hid hN2.symm
      clear hN2
      go_wp2_with (first | (go_at_call 28; refine (hhd _ d.mx).mono ?_; rintro e w2 ⟨rfl, hb2⟩
                            have d2 := d.below hb2
                            obtain ⟨ke, kf, kr, kh, kg⟩ := d2.cells))
      have d4 := d2.setE 4
      exact d4.close (B := ⟨#[]⟩) (ok := false) (er := 4) HN1.out rfl _ rfl rfl rfl
    · rw [if_neg h1] at hN2
      by_cases h3 : 262144 < n
      · rw [if_pos h3] at hN2
        have HN1 := Lib.hid hN2.symm
        clear hN2
        go_wp2_with (first | (go_at_call 28; refine (hhd _ d.mx).mono ?_; rintro e w2 ⟨rfl, hb2⟩
                              have d2 := d.below hb2
                              obtain ⟨ke, kf, kr, kh, kg⟩ := d2.cells))
        have d4 := d2.setE 3
        exact d4.close (B := ⟨#[]⟩) (ok := false) (er := 3) HN1.out rfl _ rfl rfl rfl
      · rw [if_neg h3] at hN2
        obtain ⟨m, rfl⟩ : ∃ m : Nat, n = m := ⟨n.toNat, by omega⟩
        simp only [Int.toNat_natCast] at hN2
        rw [← Lib.size_eq] at hN2
        have hm : (m : Int) ≤ 262144 := by omega
        clear hnl h1 h3
        by_cases h4 : h.size < i + 4 + m
        · rw [if_pos h4] at hN2
          have HN1 := Lib.hid hN2.symm
          have u4 : (h.size : Int) - ((i : Int) + 4) < (m : Int) := by omega
          clear hN2
          go_wp2_with (first | (go_at_call 28; refine (hhd _ d.mx).mono ?_; rintro e w2 ⟨rfl, hb2⟩
                                have d2 := d.below hb2
                                obtain ⟨ke, kf, kr, kh, kg⟩ := d2.cells))
          have d4 := d2.setE 0
          exact d4.close (B := ⟨#[]⟩) (ok := false) (er := 0) HN1.out rfl _ rfl rfl rfl
        · rw [if_neg h4] at hN2
          have HN1 := Lib.hid hN2.symm
          have u4 : ¬ (h.size : Int) - ((i : Int) + 4) < (m : Int) := by omega
          clear hN2
          have i1 : (i : Int) + 4 + (m : Int) ≤ (h.size : Int) := by omega
          go_wp2_with (first | (go_at_call 28; refine (hhd _ d.mx).mono ?_; rintro e w2 ⟨rfl, hb2⟩
                                have d2 := d.below hb2
                                obtain ⟨ke, kf, kr, kh, kg⟩ := d2.cells))
          have q1 : IntKind.i64.wrap ((i : Int) + 4 + (m : Int)) = (i : Int) + 4 + (m : Int) := IntWalk.i64_in _ (by omega)
          have q2 : (0 : Int) ≤ (i : Int) + 4 + (m : Int) := by omega
          have q3 : ((i : Int) + 4 + (m : Int)).toNat = i + 4 + m := by omega
          go_still_tail 11, (by kernel_rfl)
          change wpList _ _ _ _ _ w2.drew
          have d3 := d2.below ((Below.refl w2.heap.size w2).drew)
          clear ke kf kr kh kg q1 q2 q3
          generalize w2.drew = U3 at d3 ⊢
          obtain ⟨ke, kf, kr, kh, kg⟩ := d3.cells
          go_wp2
          have d4 := (d3.setH hb0 (h.extract (i + 4 + m) h.size)).setE 0
          refine d4.close (B := h.extract (i + 4) (i + 4 + m)) (ok := true) (er := 0) ?_ rfl _ rfl rfl rfl
          rw [HN1.out, Lib.extract_data, Lib.extract_to_end, Nat.add_sub_cancel_left]
end Go.Proofs.Fr
