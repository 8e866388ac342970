/- The reader: a key and its value (the closure of object). -/
import Derived.Test.YtaiaiiepbpbmmaaGreatDoorCmVZ
import Derived.Test.YtaiaiiepbpbmmaaGreatDoorCmVL
import Derived.StillTailTactics
import Derived.Deep.RegionHeld3
namespace Go.Proofs.Jt
open Go.RowKit Go.Maps Go.Lib Go.Proofs.Utf Go.Proofs

theorem RD.setbad {w : World} {R : Nat} {K : List KT} {bad tw : Bool} (h : RD w R K bad tw) (b' : Bool) : RD (w.setCell ⟨R, 1, none⟩ (.bool b')) R K b' tw := by
 obtain ⟨p, c, h1, h2, h3, h4⟩ := h
 exact ⟨p, c, heap_setCell_self h1 1 _, h2, h3, h4.kept fun k hk _ => set_other (by omega)⟩
theorem box_cell {w : World} {b : Nat} {v : Value} {t : TypeId} (h : w.heap[b]? = some (.cells #[v] t (0, 0))) : w.cell? ⟨b, 0, none⟩ = some v := by simp [World.cell?, h]
set_option maxRecDepth 100000 in
set_option maxHeartbeats 4000000 in
theorem object_one {fx : List (Nat × Obj)} {w0 : World} {R vb M lo N bb bm n : Nat} (hs : LS fx w0 R vb M lo) (hMR : R < M) (hbb : (bb, Obj.cells #[.pointer (some ⟨R, 0, none⟩)] 168 (0, 0)) ∈ fx) (hbm : (bm, Obj.cells #[.map (some M)] 211 (0, 0)) ∈ fx) (hN : N ≤ 100000000) (IH : ValC n)
 {w : World} {K : List KT} {tw : Bool} {ks : List (List UInt8)} {it : List JV} (h : LG true fx w0 R vb M lo N w K tw ks it) (hn : 2 * K.length ≤ n + 3) :
 Calls Tryz.prog 210 #[.pointer (some ⟨bb, 0, none⟩), .pointer (some ⟨bm, 0, none⟩), .pointer (some ⟨vb, 0, none⟩)] w fun e w' => e = .returned (.tuple #[]) ∧ lo ≤ w'.heap.size ∧
  (∀ key r2 v r3, keyP true K = some (key, r2) → valP n r2 = some (v, r3) → LG true fx w0 R vb M lo N w' r3 (tw || decide (key ∈ ks) || v.dup) (ks ++ [key]) (it ++ [v])) ∧
  ((∀ key r2, keyP true K = some (key, r2) → valP n r2 = none) → LB fx w0 R vb w') := by
 have hRl := h.rd.lt
 have hMl := (h.met rfl).lt
 have hRlo : R < lo := by have := hs.rlt; have := hs.vlt; omega
 have cb := h.fx _ hbb
 have cm := h.fx _ hbm
 have hcb : Hid (∀ wx, FrP (fun k => k = R ∨ k = M) w wx → wx.cell? ⟨bb, 0, none⟩ = some (.pointer (some ⟨R, 0, none⟩)) ∧ wx.cell? ⟨bm, 0, none⟩ = some (.map (some M)) ∧ lo ≤ wx.heap.size) := Lib.hid fun wx hw => by
  have f1 := hs.flt _ hbb
  have f2 := hs.flt _ hbm
  have hr := hs.rlt
  refine ⟨box_cell ((hw.block bb (ltS cb) (by dsimp only at f1; omega)).trans cb), box_cell ((hw.block bm (ltS cm) (by dsimp only at f2; omega)).trans cm), Nat.le_trans h.sz hw.size⟩
 have HK : Hid (MetC w M ks.reverse ∧ RD w R K false tw) := Lib.hid ⟨h.met rfl, h.rd⟩
 have HRM : Hid (R < M) := Lib.hid hMR
 have hksl : ks.length ≤ 100000000 := by have := keys_len ks; have := h.wt; simp only [if_true] at this; omega
 have hkw : kw K ≤ 100000000 := by have := h.wt; omega
 obtain ⟨b0, m0, _⟩ := hcb.out w (FrP.refl _ _)
 have HG := Lib.hid h
 clear h cb cm hMR
 go_enter Tryz.func210, Tryz.ntmps210
 go_upto_region 0 with fail
 go_cut [3] (fun v3 wx => ∃ (b : Bool) (K1 : List KT) (X : ByteArray), v3 = .string X ∧ w.grownBy wx (some R) ∧ RD wx R K1 b tw ∧ X.size ≤ 16777216 ∧ kw K1 ≤ kw K ∧ K1.length ≤ K.length ∧ (b = false → K = (4, X.data.toList) :: K1) ∧ (b = true → ∀ x, K.head? ≠ some (4, x)))
 case first =>
  by_cases hk : ∃ x K1, K = (4, x) :: K1
  · obtain ⟨x, K1, rfl⟩ := hk
    have ht := take_any HK.out.2
    have hx : x.length ≤ 16777216 := by
     obtain ⟨p, c, _, _, _, hT⟩ := HK.out.2
     obtain ⟨_, _, _, _, _, _, hx, _⟩ := hT 0 4 x rfl
     exact hx
    have HX := Lib.hid hx
    clear hx
    go_wp2_with (first | (go_at_call 166; refine ht.mono ?_; rintro e w1 ⟨rfl, g1, r1, z1⟩))
    go_meet
    exact ⟨false, K1, _, rfl, g1, r1, by rw [arr_size]; exact HX.out, by simp only [kw]; omega, by simp, fun _ => rfl, fun h => by cases h⟩
  · have hk2 : ∀ x, K.head? ≠ some (4, x) := fun x hx => by
     cases K with
     | nil => cases hx
     | cons y K => exact hk ⟨x, K, by rw [Option.some.inj hx]⟩
    have ht := take_bad (k := 4) HK.out.2 (.inr hk2)
    have HH := Lib.hid hk2
    clear hk hk2
    go_wp2_with (first | (go_at_call 166; refine ht.mono ?_; rintro e w1 ⟨rfl, g1, r1, z1⟩))
    go_meet
    exact ⟨true, K, _, rfl, g1, r1, by decide, Nat.le_refl _, Nat.le_refl _, fun h => (by cases h), fun _ => HH.out⟩
 case rest =>
 obtain ⟨b, K1, X, rfl, g1, r1, hX, hkw1, hkl1, hgood, hbad⟩ := hcut
 have m1 : MetC wc M ks.reverse := HK.out.1.kept g1 (by intro e; cases e; exact absurd HRM.out (Nat.lt_irrefl _))
 have F1 : FrP (fun k => k = R ∨ k = M) w wc := FrP.of g1 (.inl rfl)
 obtain ⟨b1, m1', _⟩ := hcb.out wc F1
 have hlk := m1.look X (by unfold maxLen; omega)
 obtain ⟨w2, hput, gM, m2⟩ := m1.put X (by unfold maxLen; omega) (by rw [List.length_reverse]; omega)
 have hlk2 := (show MetC w2.drew M (X.data.toList :: ks.reverse) from m2).look X (by unfold maxLen; omega)
 have hcl : (ks.reverse).count X.data.toList ≤ 100000000 := by have := List.count_le_length (a := X.data.toList) (l := ks.reverse); rw [List.length_reverse] at this; omega
 have hc2 : (X.data.toList :: ks.reverse).count X.data.toList = (ks.reverse).count X.data.toList + 1 := List.count_cons_self
 have hmem : decide (X.data.toList ∈ ks) = decide (1 < (ks.reverse).count X.data.toList + 1) := by
  by_cases e : X.data.toList ∈ ks
  · have := List.count_pos_iff.2 (List.mem_reverse.2 e)
    rw [decide_eq_true e, decide_eq_true (by omega)]
  · have := List.count_eq_zero_of_not_mem (mt List.mem_reverse.1 e)
    rw [decide_eq_false e, decide_eq_false (by omega)]
 rw [hc2] at hlk2
 obtain ⟨c, hc⟩ : ∃ c, (ks.reverse).count X.data.toList = c := ⟨_, rfl⟩
 rw [hc] at hlk hput hlk2 hcl hmem
 have F2 : FrP (fun k => k = R ∨ k = M) w w2 := F1.trans (FrP.of gM (.inr rfl))
 have r2 : RD w2 R K1 b tw := r1.kept gM HRM.out
 obtain ⟨b2, m2', _⟩ := hcb.out w2 F2
 have HM2 := Lib.hid m2
 have HF2 := Lib.hid F2
 have HMEM := Lib.hid hmem
 have HGD := Lib.hid hgood
 have HBD := Lib.hid hbad
 have HR2 := Lib.hid r2
 clear m1 F1 hc2 hc m2 F2 hmem hgood hbad g1 r1 gM
 go_upto_region 2 with fail
 have T2 := Lib.hid (RD.twice (show RD w2.drew R K1 b tw from HR2.out))
 obtain ⟨p, cc, q1, q2, q3, q4⟩ := HR2.out
 obtain ⟨k0, k1, k2, kf⟩ := cells3 q1
 clear q1 q2 q3 q4 r2
 go_cut [3] (fun v3 wx => v3 = .string X ∧ FrP (fun k => k = R ∨ k = M) w wx ∧ RD wx R K1 b (tw || decide (X.data.toList ∈ ks)) ∧ MetC wx M (X.data.toList :: ks.reverse))
 case first =>
  cases tw with
  | true =>
   go_still_tail 13, (by kernel_rfl)
   change wpList _ _ _ _ _ w2.drew
   have hk0 : w2.drew.cell? ⟨R, 2, none⟩ = some (.bool true) := k2
   have hf0 : w2.drew.frozen? ⟨R, 2, none⟩ = false := kf 2
   go_wp2_with fail
   go_meet
   exact ⟨rfl, HF2.out.drew.trans (FrP.of (gb_set w2.drew R 2 _) (.inl rfl)), T2.out _, MetC.kept (show MetC w2.drew M (X.data.toList :: ks.reverse) from HM2.out) (gb_set w2.drew R 2 _) (fun e => absurd (Option.some.inj e) (Nat.ne_of_gt HRM.out))⟩
  | false =>
   have ha : (ks.reverse).count X.data.toList = c → True := fun _ => trivial
   clear ha
   go_still_tail 13, (by kernel_rfl)
   change wpList _ _ _ _ _ w2.drew
   have hk0 : w2.drew.cell? ⟨R, 2, none⟩ = some (.bool false) := k2
   have hf0 : w2.drew.frozen? ⟨R, 2, none⟩ = false := kf 2
   go_wp2_with fail
   go_meet
   refine ⟨rfl, HF2.out.drew.trans (FrP.of (gb_set w2.drew R 2 _) (.inl rfl)), ?_, MetC.kept (show MetC w2.drew M (X.data.toList :: ks.reverse) from HM2.out) (gb_set w2.drew R 2 _) (fun e => absurd (Option.some.inj e) (Nat.ne_of_gt HRM.out))⟩
   have e2 : (false || decide (X.data.toList ∈ ks)) = decide ((1 : Int) < (c : Int) + 1) := by rw [HMEM.out, Bool.false_or]; exact decide_eq_decide.2 (by omega)
   rw [e2]
   exact T2.out _
 case rest =>
 obtain ⟨rfl, F3, r3, m3⟩ := hcut
 obtain ⟨tw3, htw3⟩ : ∃ t, (tw || decide (X.data.toList ∈ ks)) = t := ⟨_, rfl⟩
 rw [htw3] at r3
 have HTW := Lib.hid htw3
 obtain ⟨b3, m3', _⟩ := hcb.out _ F3
 have HM3 := Lib.hid m3
 have HF3 := Lib.hid F3
 have HR3 := Lib.hid r3
 clear m3 F3 r3 htw3 HF2 HR2 HM2 T2 k0 k1 k2 kf b2 m2' hlk hlk2 hput m1' b1 b0 m0
 go_upto_region 3 with fail
 go_cut [3] (fun v3 wx => ∃ (b4 : Bool) (K2 : List KT), v3 = .string X ∧ FrP (fun k => k = R ∨ k = M) w wx ∧ RD wx R K2 b4 tw3 ∧ MetC wx M (X.data.toList :: ks.reverse) ∧ kw K2 ≤ kw K ∧ K2.length ≤ K1.length ∧ (b4 = false → b = false ∧ K1 = (1, [58]) :: K2) ∧ (b4 = true → b = true ∨ K1.head? ≠ some (1, [58])))
 case first =>
  obtain ⟨p, cc, q1, q2, q3, q4⟩ := HR3.out
  obtain ⟨k0, k1, k2, kf⟩ := cells3 q1
  clear q1 q2 q3 q4
  cases b with
  | true =>
   go_still_tail 12, (by kernel_rfl)
   change wpList _ _ _ _ _ wc.drew
   have hk0 : wc.drew.cell? ⟨R, 1, none⟩ = some (.bool true) := k1
   have hf0 : wc.drew.frozen? ⟨R, 1, none⟩ = false := kf 1
   have HF := Lib.hid (RD.fall (show RD wc.drew R K1 true tw3 from HR3.out))
   go_wp2_with fail
   go_meet
   exact ⟨true, K1, rfl, HF3.out.drew.trans (FrP.of (gb_set wc.drew R 1 _) (.inl rfl)), HF.out, MetC.kept (show MetC wc.drew M (X.data.toList :: ks.reverse) from HM3.out) (gb_set wc.drew R 1 _) (fun e => absurd (Option.some.inj e) (Nat.ne_of_gt HRM.out)), hkw1, Nat.le_refl _, fun h => (by cases h), fun _ => .inl trivial⟩
  | false =>
   have his := is_any (show RD wc.drew R K1 false tw3 from HR3.out) ⟨#[58]⟩
   have hkt : kw K1.tail ≤ kw K1 := by cases K1 with | nil => exact Nat.le_refl _ | cons y t => obtain ⟨j, x⟩ := y; simp only [List.tail_cons, kw]; omega
   have HKT := Lib.hid hkt
   have hd0 : wc.drew.cell? ⟨bb, 0, none⟩ = some (.pointer (some ⟨R, 0, none⟩)) := b3
   have hd1 : wc.drew.cell? ⟨R, 1, none⟩ = some (.bool false) := k1
   obtain ⟨d, hd⟩ : ∃ d, decide (K1.head? = some (1, (⟨#[58]⟩ : ByteArray).data.toList)) = d := ⟨_, rfl⟩
   rw [hd] at his
   have HD := Lib.hid hd
   clear hd hkt k0 k2 kf
   refine wp_region_late (S := fun v => v.cell? ⟨bb, 0, none⟩ = some (.pointer (some ⟨R, 0, none⟩)) ∧ v.cell? ⟨R, 1, none⟩ = some (.bool false)) 12 (by kernel_rfl) ⟨hd0, hd1⟩ (fun hHeld => ?_)
   refine wpAnyU_take (i := 0) (oi := { dst := some 23, op := Op.load 168 (Operand.tmp 0), type := 168, pos := "json.go:138", after := #[], guard := none }) (v := ?_) [10, 11, 12] rfl (by kernel_rfl) (by kernel_rfl) (by kernel_rfl) (by kernel_rfl) (fun _ _ _ h => h) (Or.inl ⟨by rfl, ?_⟩) (by assumption) ?_
   rotate_left
   · intro w hS; obtain ⟨hS0, hS1⟩ := hS; go_simp; with_reducible rfl
   try simp only [Act.put, aSA, aSZ, aSS]
   refine wpAnyU_take (i := 1) (oi := { dst := some 24, op := Op.load 168 (Operand.tmp 0), type := 168, pos := "json.go:138", after := #[], guard := none }) (v := ?_) [2, 3, 4, 5, 6, 7, 8, 9, 10, 11, 12] rfl (by kernel_rfl) (by kernel_rfl) (by kernel_rfl) (by kernel_rfl) (fun _ _ _ h => h) (Or.inl ⟨by rfl, ?_⟩) (by assumption) ?_
   rotate_left
   · intro w hS; obtain ⟨hS0, hS1⟩ := hS; go_simp; with_reducible rfl
   try simp only [Act.put, aSA, aSZ, aSS]
   refine wpAnyU_take (i := 2) (oi := { dst := some 25, op := Op.nilCheck (Operand.tmp 24), type := 0, pos := "json.go:138", after := #[eDa 1], guard := none }) (v := ?_) [3, 4, 5, 6, 7, 8, 9, 10, 11, 12] rfl (by kernel_rfl) (by kernel_rfl) (by kernel_rfl) (by kernel_rfl) (fun _ _ _ h => h) (Or.inl ⟨by rfl, ?_⟩) (by assumption) ?_
   rotate_left
   · intro w hS; obtain ⟨hS0, hS1⟩ := hS; go_simp; with_reducible rfl
   try simp only [Act.put, aSA, aSZ, aSS]
   refine wpAnyU_take (i := 3) (oi := { dst := some 26, op := Op.fieldAddr 170 (Operand.tmp 25) 1, type := 0, pos := "json.go:138", after := #[eDa 2], guard := none }) (v := ?_) [4, 5, 6, 7, 8, 9, 10, 11, 12] rfl (by kernel_rfl) (by kernel_rfl) (by kernel_rfl) (by kernel_rfl) (fun _ _ _ h => h) (Or.inl ⟨by rfl, ?_⟩) (by assumption) ?_
   rotate_left
   · intro w hS; obtain ⟨hS0, hS1⟩ := hS; go_simp; with_reducible rfl
   try simp only [Act.put, aSA, aSZ, aSS]
   refine wpAnyU_take (i := 4) (oi := { dst := some 27, op := Op.load 4 (Operand.tmp 26), type := 4, pos := "json.go:138", after := #[eDa 3], guard := none }) (v := ?_) [5, 6, 7, 8, 9, 10, 11, 12] rfl (by kernel_rfl) (by kernel_rfl) (by kernel_rfl) (by kernel_rfl) (fun _ _ _ h => h) (Or.inl ⟨by rfl, ?_⟩) (by assumption) ?_
   rotate_left
   · intro w hS; obtain ⟨hS0, hS1⟩ := hS; go_simp; with_reducible rfl
   try simp only [Act.put, aSA, aSZ, aSS]
   refine wpAnyU_take (i := 5) (oi := { dst := some 28, op := Op.move (Operand.tmp 27), type := 4, pos := "json.go:138", after := #[eDa 4], guard := none }) (v := ?_) [6, 7, 8, 9, 10, 11, 12] rfl (by kernel_rfl) (by kernel_rfl) (by kernel_rfl) (by kernel_rfl) (fun _ _ _ h => h) (Or.inl ⟨by rfl, ?_⟩) (by assumption) ?_
   rotate_left
   · intro w hS; obtain ⟨hS0, hS1⟩ := hS; go_simp; with_reducible rfl
   try simp only [Act.put, aSA, aSZ, aSS]
   refine wpAnyU_take (i := 6) (oi := { dst := some 29, op := Op.load 168 (Operand.tmp 0), type := 168, pos := "json.go:138", after := #[eGu 5], guard := some (5, false) }) (v := ?_) [7, 8, 9, 10, 11, 12] rfl (by kernel_rfl) (by kernel_rfl) (by kernel_rfl) (by kernel_rfl) (fun _ _ _ h => h) (Or.inl ⟨by rfl, ?_⟩) (by assumption) ?_
   rotate_left
   · intro w hS; obtain ⟨hS0, hS1⟩ := hS; go_simp; with_reducible rfl
   try simp only [Act.put, aSA, aSZ, aSS]
   refine wpAnyU_ready (rs := [7]) (by kernel_rfl) (by simp) (AllReadyU.cons (o := { dst := some 30, op := Op.call { callee := Callee.value (Operand.func 163), args := #[Operand.tmp 29, Operand.const (Value.string { data := #[58] })], argTypes := #[168, 9] }, type := 4, pos := "json.go:138", after := #[eDa 6, eCh 5, eGu 5], guard := some (5, false) }) rfl (fun K hK => ?_) AllReadyU.nil)
   rw [if_pos (by rfl)]
   go_simp
   (go_at_call 163; refine his.mono ?_; rintro e w4 ⟨rfl, g4, r4, _⟩; have r40 := Lib.hid r4; obtain ⟨p, cc, q1, _, _, _⟩ := r4; obtain ⟨e00, e1, e2, ef⟩ := cells3 q1; have ef1 := ef 1; obtain ⟨e0, _, _⟩ := hcb.out w4 (HF3.out.drew.trans (FrP.of g4 (.inl rfl))); clear q1 ef)
   refine hK.out _ _ (fun _ => ⟨e0, e1⟩) (fun hS2 => ?_)
   replace hS2 := hS2 (by decide)
   clear hK K
   try simp only [Act.put, aSA, aSZ, aSS]
   refine wpAnyU_take (i := 8) (oi := { dst := some 31, op := Op.unOp UnOp.not 4 (Operand.tmp 30), type := 4, pos := "json.go:138", after := #[eDa 7, eGu 5], guard := some (5, false) }) (v := ?_) [9, 10, 11, 12] rfl (by kernel_rfl) (by kernel_rfl) (by kernel_rfl) (by kernel_rfl) (fun _ _ _ h => h) (Or.inl ⟨by rfl, ?_⟩) (by assumption) ?_
   rotate_left
   · intro w hS; obtain ⟨hS0, hS1⟩ := hS; go_simp; with_reducible rfl
   try simp only [Act.put, aSA, aSZ, aSS]
   refine wpAnyU_take (i := 9) (oi := { dst := some 32, op := Op.pick (Operand.tmp 28) (Operand.const (Value.bool true)) (Operand.tmp 31), type := 4, pos := "json.go:138", after := #[eDa 5, eDa 8], guard := none }) (v := ?_) [10, 11, 12] rfl (by kernel_rfl) (by kernel_rfl) (by kernel_rfl) (by kernel_rfl) (fun _ _ _ h => h) (Or.inl ⟨by rfl, ?_⟩) (by assumption) ?_
   rotate_left
   · intro w hS; obtain ⟨hS0, hS1⟩ := hS; go_simp; with_reducible rfl
   try simp only [Act.put, aSA, aSZ, aSS]
   refine wpAnyU_take (i := 10) (oi := { dst := some 33, op := Op.nilCheck (Operand.tmp 23), type := 0, pos := "json.go:138", after := #[eDa 0, ePh 0, ePh 1, ePh 2, ePh 3, ePh 4, ePh 5, ePh 6, ePh 7, ePh 8, ePh 9], guard := none }) (v := ?_) [11, 12] rfl (by kernel_rfl) (by kernel_rfl) (by kernel_rfl) (by kernel_rfl) (fun _ _ _ h => h) (Or.inl ⟨by rfl, ?_⟩) (by assumption) ?_
   rotate_left
   · intro w hS; obtain ⟨hS0, hS1⟩ := hS; go_simp; with_reducible rfl
   try simp only [Act.put, aSA, aSZ, aSS]
   refine wpAnyU_take (i := 11) (oi := { dst := some 34, op := Op.fieldAddr 170 (Operand.tmp 33) 1, type := 0, pos := "json.go:138", after := #[eDa 10, ePh 0, ePh 1, ePh 2, ePh 3, ePh 4, ePh 5, ePh 6, ePh 7, ePh 8, ePh 9], guard := none }) (v := ?_) [12] rfl (by kernel_rfl) (by kernel_rfl) (by kernel_rfl) (by kernel_rfl) (fun _ _ _ h => h) (Or.inl ⟨by rfl, ?_⟩) (by assumption) ?_
   rotate_left
   · intro w hS; obtain ⟨hS0, hS1⟩ := hS; go_simp; with_reducible rfl
   try simp only [Act.put, aSA, aSZ, aSS]
   refine wpAnyU_ready (rs := [12]) (by kernel_rfl) (by simp) (AllReadyU.cons (o := { dst := none, op := Op.store 4 (Operand.tmp 34) (Operand.tmp 32), type := 0, pos := "json.go:138", after := #[eDa 11, eDa 9, eCh 7, ePh 0, ePh 1, ePh 2, ePh 3, ePh 4, ePh 5, ePh 6, ePh 7, ePh 8, ePh 9], guard := none }) rfl (fun K hK => ?_) AllReadyU.nil)
   rw [if_pos (by rfl)]
   go_simp
   refine hK.out _ _ (fun h => absurd h (by decide)) (fun _ => ?_)
   clear hK K
   try simp only [Act.put, aSA, aSZ, aSS]
   refine wpAnyU_done (by kernel_rfl) ?_ _
   go_wp2_with fail
   go_meet
   have hgd := HD.out
   refine ⟨!d, _, rfl, (HF3.out.drew.trans (FrP.of g4 (.inl rfl))).trans (FrP.of (gb_set w4 R 1 _) (.inl rfl)), r40.out.setbad _, MetC.kept (MetC.kept (show MetC wc.drew M (X.data.toList :: ks.reverse) from HM3.out) g4 (fun e => absurd (Option.some.inj e) (Nat.ne_of_gt HRM.out))) (gb_set w4 R 1 _) (fun e => absurd (Option.some.inj e) (Nat.ne_of_gt HRM.out)), ?_, ?_, fun hd2 => ⟨trivial, ?_⟩, fun hd2 => .inr ?_⟩
   · split
     · exact Nat.le_trans HKT.out hkw1
     · exact hkw1
   · split
     · rw [List.length_tail]; exact Nat.sub_le _ _
     · exact Nat.le_refl _
   · have hd3 : d = true := by simpa using hd2
     rw [hd3] at hgd
     have h58 := of_decide_eq_true hgd
     rw [if_pos h58]
     cases K1 with
     | nil => cases h58
     | cons y t => rw [Option.some.inj h58]; rfl
   · have hd3 : d = false := by simpa using hd2
     rw [hd3] at hgd
     exact of_decide_eq_false hgd
 case rest =>
 obtain ⟨b4, K2, rfl, F4, r4, m4, hkw4, hkl4, hg4, hb4⟩ := hcut
 obtain ⟨b40, m40, hlo4⟩ := hcb.out _ F4
 obtain ⟨L, kv, iv, hLV0, hLm⟩ := HG.out.v
 have hvM : vb ≠ M := fun e => hs.mlt.2.2 e.symm
 have hvR : vb ≠ R := by have := hs.rlt; have := hs.vlt; omega
 have hMlo := hs.mlt.2.1
 have hLV : LV wc vb lo 6 ks L kv iv := LV.fr (show LV w vb lo 6 ks L kv iv from hLV0) F4 (by omega) (fun b hb => by omega)
 have HVC : Hid (∀ w5, RD w5 R K2 b4 tw3 → Calls Tryz.prog 112 #[.pointer (some ⟨R, 0, none⟩)] w5 (ValPost w5 R tw3 (valB n b4 K2))) := Lib.hid fun w5 hr => IH.bad w5 R K2 b4 tw3 hr fun hb => by
  obtain ⟨e1, e2⟩ := hg4 hb
  have e3 := HGD.out e1
  rw [e3, e2] at hn
  simp only [List.length_cons] at hn
  omega
 have HS4 : Hid (∀ wx, FrP (fun k => k = R ∨ lo ≤ k) wc wx → wx.cell? ⟨bb, 0, none⟩ = some (.pointer (some ⟨R, 0, none⟩)) ∧ wx.cell? ⟨vb, 2, none⟩ = some kv ∧ wx.cell? ⟨vb, 3, none⟩ = some iv ∧ wx.frozen? ⟨vb, 2, none⟩ = false ∧ wx.frozen? ⟨vb, 3, none⟩ = false) := Lib.hid fun wx hw => by
  have f1 := hs.flt _ hbb
  have f2 := hs.rlt
  have f3 := hs.vlt
  have e1 := cell_same b40 (hw.block bb (cell_blk b40) (by dsimp only at f1; omega))
  have e2 := (hw.block vb (ltS hLV.hd) (by omega)).trans hLV.hd
  exact ⟨e1, by simp [World.cell?, e2], by simp [World.cell?, e2], by simp [World.frozen?, e2], by simp [World.frozen?, e2]⟩
 obtain ⟨i9_, hi9, hz90, hz91, hz92⟩ := info_parts info9
 obtain ⟨i45_, hi45, hz450, hz451, hz452⟩ := info_parts info45
 have hrk : wc.drew.ownsRow lo 9 1 kv ks.length (strC ks) := hLV.rk
 have hri : wc.drew.ownsRow lo 25 4 iv L.length (rowC L) := hLV.ri
 have hrd : RD wc.drew R K2 b4 tw3 := r4
 have hLl : L.length ≤ 100000000 := by
  have h1 := HG.out.wt
  simp only [if_true] at h1
  have h2 := items_len it
  rw [← hLm, List.length_map] at h2
  rw [hLm] at h2
  omega
 have F0 : FrP (fun k => k = R ∨ lo ≤ k) wc wc.drew := (FrP.refl _ _).drew
 have hFA := FrP.of_none (P := fun k => k = R ∨ lo ≤ k) (World.grownBy_alloc wc.drew (.cells #[.string X] 9) none)
 have HH := Lib.hid (And.intro hLV (And.intro F4 (And.intro m4 (And.intro hg4 hb4))))
 have HLm := Lib.hid hLm
 have hlo4d : lo ≤ wc.drew.heap.size := hlo4
 clear hLV F4 m4 hg4 hb4 hLV0 hLm b40 m40 r4
 go_upto_region 4 with fail
 refine wp_region_late (S := fun v => v.cell? ⟨bb, 0, none⟩ = some (.pointer (some ⟨R, 0, none⟩)) ∧ v.cell? ⟨vb, 2, none⟩ = some kv ∧ v.cell? ⟨vb, 3, none⟩ = some iv ∧ v.frozen? ⟨vb, 2, none⟩ = false ∧ v.frozen? ⟨vb, 3, none⟩ = false) 12 (by kernel_rfl) (HS4.out _ F0) (fun hHeld => ?_)
 refine wpAnyU_take (i := 0) (oi := { dst := some 35, op := Op.fieldAddr 25 (Operand.tmp 2) 2, type := 0, pos := "json.go:139", after := #[], guard := none }) (v := ?_) [1, 4, 8, 9, 10, 11, 12, 13, 14] rfl (by kernel_rfl) (by kernel_rfl) (by kernel_rfl) (by kernel_rfl) (fun _ _ _ h => h) (Or.inl ⟨by rfl, ?_⟩) (by assumption) ?_
 rotate_left
 · intro w hS; obtain ⟨hS0, hS1, hS3, _, _⟩ := hS; go_simp; with_reducible rfl
 try simp only [Act.put, aSA, aSZ, aSS]
 refine wpAnyU_take (i := 1) (oi := { dst := some 36, op := Op.load 22 (Operand.tmp 35), type := 22, pos := "json.go:139", after := #[eDa 0], guard := none }) (v := ?_) [4, 8, 9, 10, 11, 12, 13, 14] rfl (by kernel_rfl) (by kernel_rfl) (by kernel_rfl) (by kernel_rfl) (fun _ _ _ h => h) (Or.inl ⟨by rfl, ?_⟩) (by assumption) ?_
 rotate_left
 · intro w hS; obtain ⟨hS0, hS1, hS3, _, _⟩ := hS; go_simp; with_reducible rfl
 try simp only [Act.put, aSA, aSZ, aSS]
 refine wpAnyU_take (i := 2) (oi := { dst := some 37, op := Op.move (Operand.tmp 3), type := 9, pos := "json.go:139", after := #[], guard := none }) (v := ?_) [3, 4, 8, 9, 10, 11, 12, 13, 14] rfl (by kernel_rfl) (by kernel_rfl) (by kernel_rfl) (by kernel_rfl) (fun _ _ _ h => h) (Or.inl ⟨by rfl, ?_⟩) (by assumption) ?_
 rotate_left
 · intro w hS; obtain ⟨hS0, hS1, hS3, _, _⟩ := hS; go_simp; with_reducible rfl
 try simp only [Act.put, aSA, aSZ, aSS]
 refine wpAnyU_take (i := 5) (oi := { dst := some 40, op := Op.fieldAddr 25 (Operand.tmp 2) 3, type := 0, pos := "json.go:139", after := #[], guard := none }) (v := ?_) [6, 10, 11, 12, 13, 14] rfl (by kernel_rfl) (by kernel_rfl) (by kernel_rfl) (by kernel_rfl) (fun _ _ _ h => h) (Or.inl ⟨by rfl, ?_⟩) (by assumption) ?_
 rotate_left
 · intro w hS; obtain ⟨hS0, hS1, hS3, _, _⟩ := hS; go_simp; with_reducible rfl
 try simp only [Act.put, aSA, aSZ, aSS]
 refine wpAnyU_take (i := 6) (oi := { dst := some 41, op := Op.load 23 (Operand.tmp 40), type := 23, pos := "json.go:139", after := #[eDa 5], guard := none }) (v := ?_) [10, 11, 12, 13, 14] rfl (by kernel_rfl) (by kernel_rfl) (by kernel_rfl) (by kernel_rfl) (fun _ _ _ h => h) (Or.inl ⟨by rfl, ?_⟩) (by assumption) ?_
 rotate_left
 · intro w hS; obtain ⟨hS0, hS1, hS3, _, _⟩ := hS; go_simp; with_reducible rfl
 try simp only [Act.put, aSA, aSZ, aSS]
 refine wpAnyU_take (i := 7) (oi := { dst := some 42, op := Op.load 168 (Operand.tmp 0), type := 168, pos := "json.go:139", after := #[], guard := none }) (v := ?_) [8, 9, 10, 12, 13, 14] rfl (by kernel_rfl) (by kernel_rfl) (by kernel_rfl) (by kernel_rfl) (fun _ _ _ h => h) (Or.inl ⟨by rfl, ?_⟩) (by assumption) ?_
 rotate_left
 · intro w hS; obtain ⟨hS0, hS1, hS3, _, _⟩ := hS; go_simp; with_reducible rfl
 try simp only [Act.put, aSA, aSZ, aSS]
 refine wpAnyU_ready (rs := [3]) (by kernel_rfl) (by simp) (AllReadyU.cons (o := { dst := some 38, op := Op.buildSlice 22 1 #[(0, Operand.tmp 37)], type := 22, pos := "json.go:139", after := #[eDa 2], guard := none }) rfl (fun K hK => ?_) AllReadyU.nil)
 rw [if_pos (by rfl)]
 go_simp
 refine hK.out _ _ (fun _ => HS4.out _ (F0.alloc _)) (fun hS2 => ?_)
 replace hS2 := hS2 (by decide)
 clear hK K
 try simp only [Act.put, aSA, aSZ, aSS]
 refine wpAnyU_ready (rs := [4]) (by kernel_rfl) (by simp) (AllReadyU.cons (o := { dst := some 39, op := Op.call { callee := Callee.builtin Builtin.append, args := #[Operand.tmp 36, Operand.tmp 38], argTypes := #[22, 22] }, type := 22, pos := "json.go:139", after := #[eDa 1, eDa 3], guard := none }) rfl (fun K hK => ?_) AllReadyU.nil)
 rw [if_pos (by rfl)]
 refine wp_append_own_at (.tmp 36) (.tmp 38) 22 rfl lo 9 i9_ _ 1 16 Tryz.underlying22 hi9 hz90 hz91 hz92 rfl (by decide) _ _ _ rfl (hrk.alloc _) ⟨wc.drew.heap.size, 0, none⟩ 1 1 [.string X] rfl rfl (new_cells _ _ _) (fun u hu => by rw [List.mem_singleton.1 hu]; rfl) (by unfold maxLen; omega) (by omega) (by simp; omega) ?_; intro kv2 w5 hk2 hgk hat; obtain ⟨kp2, kc2, rfl⟩ := row_form hk2; have F5 := F0.trans (hFA.trans (FrP.of_row hgk (fun k hk => .inr (hrk.lt k hk).1)))
 refine hK.out _ _ (fun _ => HS4.out _ F5) (fun hS2 => ?_)
 replace hS2 := hS2 (by decide)
 clear hK K
 try simp only [Act.put, aSA, aSZ, aSS]
 refine wpAnyU_take (i := 11) (oi := { dst := some 46, op := Op.fieldAddr 25 (Operand.tmp 2) 2, type := 0, pos := "json.go:139", after := #[ePh 0, ePh 1, ePh 2, ePh 3, ePh 4, ePh 5, ePh 6, { on := 7, ground := Ground.textOnly Departure.inlinedCapture }, { on := 8, ground := Ground.textOnly Departure.lateStoresUnsure }, { on := 9, ground := Ground.textOnly Departure.inlinedCapture }, { on := 10, ground := Ground.textOnly Departure.lateStoresUnsure }], guard := none }) (v := ?_) [12, 13, 14] rfl (by kernel_rfl) (by kernel_rfl) (by kernel_rfl) (by kernel_rfl) (fun _ _ _ h => h) (Or.inl ⟨by rfl, ?_⟩) (by assumption) ?_
 rotate_left
 · intro w hS; obtain ⟨hS0, hS1, hS3, _, _⟩ := hS; go_simp; with_reducible rfl
 try simp only [Act.put, aSA, aSZ, aSS]
 refine wpAnyU_ready (rs := [8]) (by kernel_rfl) (by simp) (AllReadyU.cons (o := { dst := some 43, op := Op.call { callee := Callee.value (Operand.func 112), args := #[Operand.tmp 42], argTypes := #[168] }, type := 25, pos := "json.go:139", after := #[eDa 7, eCh 4], guard := none }) rfl (fun K hK => ?_) AllReadyU.nil)
 rw [if_pos (by rfl)]
 go_simp
 (go_at_call 112; refine (HVC.out _ ((hrd.fr (P := fun k => lo ≤ k) (FrP.of_none (World.grownBy_alloc wc.drew (.cells #[.string X] 9) none)) (fun k hk => by omega)).fr (FrP.of_row hgk (fun k hk => (hrk.lt k hk).1)) (fun k hk => by omega))).mono ?_; rintro e w6 ⟨vk, vS, vp, vn, vc, vp', vn', vc', rfl, hvp⟩; have F6 := F5.trans (FrP.of hvp.gb (.inl rfl)); have hri6 := row_fr (row_fr (hri.alloc _) (FrP.of_row (P := fun k => kv.ownBlock = some k) hgk (fun k hk => hk)) (fun k hk e => LV.apart hrk hri k e hk)) (FrP.of (P := fun k => k = R) hvp.gb rfl) (fun k hk e => by have := (hri.lt k hk).1; omega))
 refine hK.out _ _ (fun _ => HS4.out _ F6) (fun hS2 => ?_)
 replace hS2 := hS2 (by decide)
 clear hK K
 try simp only [Act.put, aSA, aSZ, aSS]
 refine wpAnyU_ready (rs := [9]) (by kernel_rfl) (by simp) (AllReadyU.cons (o := { dst := some 44, op := Op.buildSlice 23 1 #[(0, Operand.tmp 43)], type := 23, pos := "json.go:139", after := #[eDa 8], guard := none }) rfl (fun K hK => ?_) AllReadyU.nil)
 rw [if_pos (by rfl)]
 go_simp
 refine hK.out _ _ (fun _ => HS4.out _ (F6.alloc _)) (fun hS2 => ?_)
 replace hS2 := hS2 (by decide)
 clear hK K
 try simp only [Act.put, aSA, aSZ, aSS]
 refine wpAnyU_ready (rs := [10]) (by kernel_rfl) (by simp) (AllReadyU.cons (o := { dst := some 45, op := Op.call { callee := Callee.builtin Builtin.append, args := #[Operand.tmp 41, Operand.tmp 44], argTypes := #[23, 23] }, type := 23, pos := "json.go:139", after := #[eDa 6, eDa 9, eCh 8], guard := none }) rfl (fun K hK => ?_) AllReadyU.nil)
 rw [if_pos (by rfl)]
 refine wp_append_own_at (.tmp 41) (.tmp 44) 23 rfl lo 25 i45_ _ 4 72 Tryz.underlying23 hi45 hz450 hz451 hz452 rfl (by decide) _ _ _ rfl (hri6.alloc _) ⟨w6.heap.size, 0, none⟩ 1 1 [.int .i64 vk, .string vS, .slice vp vn vc, .slice vp' vn' vc'] rfl rfl (new_cells _ _ _) (fun u hu => by simp only [List.mem_cons, List.not_mem_nil, or_false] at hu; rcases hu with rfl | rfl | rfl | rfl <;> rfl) (by unfold maxLen; omega) (by omega) (by have := F6.size; simp; omega) ?_; intro iv2 w7 hi2 hgi hat2; obtain ⟨ip2, ic2, rfl⟩ := row_form hi2; have F7 := (F6.alloc (.cells #[.int .i64 vk, .string vS, .slice vp vn vc, .slice vp' vn' vc'] 25)).trans (FrP.of_row hgi (fun k hk => .inr (hri6.lt k hk).1)); obtain ⟨y1, y2, y3, y4, y5⟩ := HS4.out _ F7
 refine hK.out _ _ (fun _ => HS4.out _ F7) (fun hS2 => ?_)
 replace hS2 := hS2 (by decide)
 clear hK K
 try simp only [Act.put, aSA, aSZ, aSS]
 refine wpAnyU_ready (rs := [12]) (by kernel_rfl) (by simp) (AllReadyU.cons (o := { dst := none, op := Op.store 22 (Operand.tmp 46) (Operand.tmp 39), type := 0, pos := "json.go:139", after := #[eDa 11, eDa 4, eCh 10, ePh 0, ePh 1, ePh 2, ePh 3, ePh 4, ePh 5, ePh 6, { on := 7, ground := Ground.textOnly Departure.inlinedCapture }, { on := 8, ground := Ground.textOnly Departure.lateStoresUnsure }, { on := 9, ground := Ground.textOnly Departure.inlinedCapture }, { on := 10, ground := Ground.textOnly Departure.lateStoresUnsure }], guard := none }) rfl (fun K hK => ?_) AllReadyU.nil)
 rw [if_pos (by rfl)]
 go_simp
 refine hK.out _ _ (fun h => absurd h (by decide)) (fun _ => ?_)
 clear hK K
 try simp only [Act.put, aSA, aSZ, aSS]
 refine wpAnyU_ready (rs := [13]) (by kernel_rfl) (by simp) (AllReadyU.cons (o := { dst := some 47, op := Op.fieldAddr 25 (Operand.tmp 2) 3, type := 0, pos := "json.go:139", after := #[ePh 0, ePh 1, ePh 2, ePh 3, ePh 4, ePh 5, ePh 6, ePh 7, ePh 8, ePh 9, ePh 10, ePh 11, ePh 12], guard := none }) rfl (fun K hK => ?_) AllReadyU.nil)
 rw [if_pos (by rfl)]
 go_simp
 refine hK.out _ _ (fun h => absurd h (by decide)) (fun _ => ?_)
 clear hK K
 try simp only [Act.put, aSA, aSZ, aSS]
 refine wpAnyU_ready (rs := [14]) (by kernel_rfl) (by simp) (AllReadyU.cons (o := { dst := none, op := Op.store 23 (Operand.tmp 47) (Operand.tmp 45), type := 0, pos := "json.go:139", after := #[eDa 13, eDa 10, eCh 12, ePh 0, ePh 1, ePh 2, ePh 3, ePh 4, ePh 5, ePh 6, ePh 7, ePh 8, ePh 9, ePh 10, ePh 11, ePh 12], guard := none }) rfl (fun K hK => ?_) AllReadyU.nil)
 rw [if_pos (by rfl)]
 go_simp
 refine hK.out _ _ (fun h => absurd h (by decide)) (fun _ => ?_)
 clear hK K
 try simp only [Act.put, aSA, aSZ, aSS]
 refine wpAnyU_done (by kernel_rfl) ?_ _
 go_wp2_with fail
 go_end0
 obtain ⟨hLV, F4, m4, hg4, hb4⟩ := HH.out
 have hX2 : (⟨X.data.toList.toArray⟩ : ByteArray) = X := by simp
 have hRM := HRM.out
 obtain ⟨kv2, hkv2⟩ : ∃ v, Value.slice kp2 (ks.length + 1) kc2 = v := ⟨_, rfl⟩
 obtain ⟨iv2, hiv2⟩ : ∃ v, Value.slice ip2 (L.length + 1) ic2 = v := ⟨_, rfl⟩
 have hgk2 : (wc.drew.alloc (.cells #[.string X] 9)).grownBy w5 kv.ownBlock := hgk
 have hat3 : kv2.ownBlock = kv.ownBlock ∨ kv2.ownBlock = some (wc.drew.alloc (.cells #[.string X] 9)).heap.size := by rw [← hkv2]; exact hat
 have hgi2 : (w6.alloc (.cells #[.int .i64 vk, .string vS, .slice vp vn vc, .slice vp' vn' vc'] 25)).grownBy w7 iv.ownBlock := hgi
 have hat4 : iv2.ownBlock = iv.ownBlock ∨ iv2.ownBlock = some (w6.alloc (.cells #[.int .i64 vk, .string vS, .slice vp vn vc, .slice vp' vn' vc'] 25)).heap.size := by rw [← hiv2]; exact hat2
 rw [hkv2] at hk2
 rw [hiv2] at hi2
 have g0 : wc.grownBy (wc.drew.alloc (.cells #[.string X] 9)) none := by
  have h := World.grownBy_alloc wc.drew (.cells #[.string X] 9) none
  exact ⟨h.os, h.tape, h.output, h.size, h.block⟩
 have F9 := set2_fr w7 vb kv2 iv2
 have h1 := hs.rlt
 have h2 := hs.vlt
 have FT : FrP (ClP R vb M lo) w ((w7.setCell ⟨vb, 2, none⟩ kv2).setCell ⟨vb, 3, none⟩ iv2) :=
  (F4.mono fun k _ hk => by unfold ClP; omega).trans ((F7.mono fun k _ hk => by unfold ClP; omega).trans (F9.mono fun k _ hk => by unfold ClP; omega))
 have hgb := gb_cl hs HG.out.fr FT
 have hfx := fx_cl hs HG.out.fx FT
 have hsz := Nat.le_trans HG.out.sz FT.size
 have hm9 := map_fr (map_fr m4 F7 (by omega)) F9 (Ne.symm hvM)
 have F67 : FrP (fun k => lo ≤ k) w6 w7 := (FrP.of_none (World.grownBy_alloc w6 (.cells #[.int .i64 vk, .string vS, .slice vp vn vc, .slice vp' vn' vc'] 25) none)).trans (FrP.of_row hgi2 fun k hk => (hri.lt k hk).1)
 have hend : ∀ {K' : List KT} {b' t' : Bool}, RD w6 R K' b' t' → RD ((w7.setCell ⟨vb, 2, none⟩ kv2).setCell ⟨vb, 3, none⟩ iv2) R K' b' t' := fun hr => (hr.fr F67 fun k hk => by omega).fr F9 fun k hk => by omega
 rw [hkv2, hiv2]
 refine ⟨rfl, hsz, fun key r2 v r3 hk hv => ?_, fun hnone => ?_⟩
 · rcases keyP_some hk with ⟨_, hK⟩ | ⟨h, _⟩
   · have hbf : b = false := by
      cases b with
      | false => rfl
      | true => exact absurd (by rw [hK]; rfl) (HBD.out rfl key)
     have e1 := HGD.out hbf
     rw [hK] at e1
     injection e1 with e2 e3
     have hkey : key = X.data.toList := by injection e2
     have hb4f : b4 = false := by
      cases b4 with
      | false => rfl
      | true =>
       rcases hb4 rfl with h | h
       · rw [hbf] at h; cases h
       · exact absurd (by rw [← e3]; rfl) h
     have e5 := (hg4 hb4f).2
     rw [← e3] at e5
     injection e5 with _ e6
     subst e6
     have hvb : valB n b4 r2 = some (v, r3) := by rw [hb4f]; exact hv
     obtain ⟨q1, q2, q3, q4⟩ := hvp.good v r3 hvb
     have hcells : (IC.cells ⟨v, vp, vc, vp', vc'⟩) = [.int .i64 vk, .string vS, .slice vp vn vc, .slice vp' vn' vc'] := by
      unfold jval at q2
      injection q2 with q2
      exact Array.toList_inj.2 q2
     have hadd := LV.add (c := ⟨v, vp, vc, vp', vc'⟩) (X := key) hLV hRlo h2.2 (Ne.symm hvR) g0 (by rw [hkey, hX2]; exact hk2) hgk2 hat3 hvp.gb (World.grownBy_alloc w6 _ none) (by rw [hcells]; exact hi2) hgi2 hat4 ⟨q3, q4⟩
     have hwt := HG.out.wt
     have hvw := (val_wt n).1 _ _ _ hv
     refine ⟨hgb, ?_, hfx, ⟨_, kv2, iv2, hadd, by rw [List.map_append, HLm.out]; rfl⟩, fun _ => ?_, ?_, hsz⟩
     · rw [hkey, HTW.out]
       exact hend q1
     · rw [hkey, List.reverse_append]
       exact hm9
     · rw [hK] at hwt
       simp only [if_true, kw, wtL_append, keysW_append, wtL, keysW, List.length_cons, List.length_nil] at hwt ⊢
       omega
   · cases h
 · have hnv : valB n b4 K2 = none := by
    cases b4 with
    | true => rfl
    | false =>
     obtain ⟨e1, e2⟩ := hg4 rfl
     have e3 := HGD.out e1
     exact hnone X.data.toList K2 (by rw [e3, e2]; rfl)
   obtain ⟨K', tw', hr⟩ := hvp.bad hnv
   have hd7 := (F7.block vb (ltS hLV.hd) (by omega)).trans hLV.hd
   refine ⟨hgb, ⟨K', tw', hend hr⟩, hfx, ?_⟩
   rw [← hkv2, ← hiv2]
   exact ⟨6, _, _, _, _, _, _, _, cells2_set hd7⟩
end Go.Proofs.Jt
