/- The laws' do: an act done to both. -/
import Derived.Test.YtcenfckjkboabaaGreatDoorE12
import Derived.Deep.CutBlock
import Derived.Deep.RegionHeld3
import Derived.Deep.DeepCutAuto
import Derived.Deep.MidRow
namespace Go.Proofs.Dc
open Go.RowKit Go.Proofs Go.Lib Go.Maps

/-- a block of the call's own is changed -/
theorem Two.other {B : Nat} {w w' : World} {b M r : Nat} {v : Value} {L1 L2 : List Doc} (h : Two B w b M r v L1 L2) {g : Nat} (hg : w.grownBy w' (some g)) (h1 : g ≠ b) (h2 : g ≠ M) (h3 : g ≠ r) (h4 : v.ownBlock ≠ some g) : Two B w' b M r v L1 L2 :=
  ⟨h.dv.kept hg (fun e => h1 (Option.some.inj e).symm) (fun e => h2 (Option.some.inj e).symm), h.rv.kept hg (fun e => h3 (Option.some.inj e).symm) (.inl h4), h.bM, h.bb, h.rb, h.rM, h.vb, h.vM, Nat.le_trans h.sz hg.size⟩
theorem Step.other {w w1 w' : World} {M r : Nat} {v v' : Value} (h : Step w w1 M r v v') {g : Nat} (hg : w1.grownBy w' (some g)) (hl : w.heap.size ≤ g) : Step w w' M r v v' :=
  ⟨hg.os.trans h.os, hg.tape.trans h.tape, hg.output.trans h.output, Nat.le_trans h.size hg.size, fun k h1 h2 h3 h4 => (hg.block k (Nat.lt_of_lt_of_le h1 h.size) (fun e => by have := Option.some.inj e; omega)).trans (h.block k h1 h2 h3 h4), h.new⟩
/-- the box of an act -/
def actBox (x : Act) : Obj := .cells #[.int .i64 x.todo, .string x.uri, .string x.text, .int .i64 x.times, .int .i64 x.ver, .slice x.lp x.ln x.lc, .int .u8 x.fill] 35
structure Box7 (w : World) (g : Nat) (x : Act) : Prop where
  c0 : w.cell? ⟨g, 0, none⟩ = some (.int .i64 x.todo)
  c1 : w.cell? ⟨g, 1, none⟩ = some (.string x.uri)
  c2 : w.cell? ⟨g, 2, none⟩ = some (.string x.text)
  c3 : w.cell? ⟨g, 3, none⟩ = some (.int .i64 x.times)
  c4 : w.cell? ⟨g, 4, none⟩ = some (.int .i64 x.ver)
  c5 : w.cell? ⟨g, 5, none⟩ = some (.slice x.lp x.ln x.lc)
  c6 : w.cell? ⟨g, 6, none⟩ = some (.int .u8 x.fill)
theorem box7 {w : World} {g : Nat} {x : Act} (h : w.heap[g]? = some (actBox x)) : Box7 w g x := by
  unfold actBox at h
  refine ⟨?_, ?_, ?_, ?_, ?_, ?_, ?_⟩ <;> simp [World.cell?, h]
/-- a copy of changes in a row of its own -/
theorem append_chgs (W : World) (p : Option Addr) (n c : Nat) (l : List Chg) (hn : n = l.length) (hn2 : n ≤ 1000) (hI : ChgsAt W p l) :
    ∃ v' w', (∀ ty, (Builtin.append_ #[33, 33] ty #[.slice (some ⟨W.heap.size, 0, none⟩) 0 0, .slice p n c]).run Tryz.prog (W.alloc (.cells #[] 78)) = .ok v' w') ∧ w'.ownsRow W.heap.size 78 6 v' n (chgsC l) ∧ Below W.heap.size W w' ∧ ∃ g cap, v' = .slice (some ⟨g, 0, none⟩) n cap := by
  obtain ⟨i0, hi, hz0, hz1, hz2⟩ := infoP info78
  have hown : (W.alloc (.cells #[] 78)).ownsRow W.heap.size 78 6 (.slice (some ⟨W.heap.size, 0, none⟩) 0 0) 0 [] :=
    ⟨rfl, .inr ⟨_, 0, #[], rfl, Nat.le_refl _, World.alloc_heap_new W _, Nat.le_refl _, Nat.zero_le _, rfl, rfl⟩⟩
  have ba : Below W.heap.size W (W.alloc (.cells #[] 78)) := (Below.refl _ _).alloc (Nat.le_refl _) _
  cases p with
  | none =>
    have hl : l = [] := by
      cases l with
      | nil => rfl
      | cons y t => obtain ⟨a, ha, _⟩ := hI 0 y rfl; cases ha
    subst hl
    have h0 : n = 0 := hn
    subst h0
    refine ⟨_, _, fun ty => ?_, hown, ba, _, _, rfl⟩
    have hu : Tryz.prog.underlying 33 = some (.slice 78) := Tryz.underlying33
    simp [Builtin.append_, run_underlying hu, Go.sizeOf, typeInfo, hi, Builtin.lenOf, Builtin.firstCells, storeCells]
  | some a =>
    have hIa : ChgsAt (W.alloc (.cells #[] 78)) (some a) l := hI.below ba
    have hr := fun ty => run_append_own (P := Tryz.prog) (W.alloc (.cells #[] 78)) W.heap.size 33 ty 78 i0 _ 6 56 Tryz.underlying33 hi hz0 hz1 hz2 rfl (by decide) _ _ _ hown a n c (chgsC l) (by rw [chgsC_length, hn]) (chgs_src hIa) (chgsC_ones l) (by unfold maxLen; omega) (by omega) (by simp)
    obtain ⟨v', w', h1, h2, h3, h4⟩ := hr 33
    simp only [Nat.zero_add, List.nil_append] at h2
    refine ⟨v', w', fun ty => ?_, h2, ba.grown h3 (by simp) (fun k hk => by cases hk; exact Nat.le_refl _), ?_⟩
    · obtain ⟨v2, w2, g1, _⟩ := hr ty
      exact h1
    · rcases h2.2 with ⟨h5, _⟩ | ⟨g, cap, _, h5, _⟩
      · have := (h4.1 h5).1; cases this
      · exact ⟨g, cap, h5⟩
theorem wpList_append_run {P : Program} {w : World} {ops : Array Oper} {rest : List Oper} {o : Oper} {a : Go.Act} {Q : Exit → Go.Act → World → Prop} (hgd : o.guard = none) (s x : Operand) (t : TypeId)
    (ho : o.op = .call { callee := .builtin .append, args := #[s, x], argTypes := #[t, t] }) {v vx v' : Value} {w' : World} (hs : a.eval s = v) (hx : a.eval x = vx)
    (hrun : ∀ ty, (Builtin.append_ #[t, t] ty #[v, vx]).run P w = .ok v' w')
    (h : wpList P ops Q rest (a.put o.dst v') w') : wpList P ops Q (o :: rest) a w := by
  refine wpList_plain hgd fun K hK => ?_
  unfold Oper.wp execOp
  simp only [ho, resolve, invoke, builtin, Sem.run_bind, Sem.run_pure, Result.andThen_ok, List.map_toArray, List.map_cons, List.map_nil, hs, hx, hrun]
  exact hK _ _ h
/-- changes in a row, as a slice -/
theorem row_chgs2 {w : World} {B e n : Nat} {v : Value} {l : List Chg} (hn : n = l.length) (hT : ∀ x ∈ l, x.text.size ≤ 300) (h : w.ownsRow B e 6 v n (chgsC l)) : ∃ (p : Option Addr) (cap : Nat), v = .slice p n cap ∧ ChgsAt w p l := by
  subst hn
  obtain ⟨p, cap, h1, _, h2⟩ := row_chgs (fun x hx => by have := hT x hx; unfold maxLen; omega) h
  exact ⟨p, cap, h1, h2⟩
theorem own_same {w w' : World} {B e size n g cap : Nat} {xs : List Value} (h : w.ownsRow B e size (.slice (some ⟨g, 0, none⟩) n cap) n xs) (hg : w'.heap[g]? = w.heap[g]?) : w'.ownsRow B e size (.slice (some ⟨g, 0, none⟩) n cap) n xs := by
  refine ⟨h.1, ?_⟩
  rcases h.2 with h2 | ⟨g', cap', cur, h1, h2, h3, h4⟩
  · exact .inl h2
  · refine .inr ⟨g', cap', cur, h1, h2, ?_, h4⟩
    cases h1
    exact hg.trans h3
/-- a row in which cells are stored -/
theorem own_setCells {B e size n g cap : Nat} : ∀ (vs : List Value) (o : Nat) (w : World) (xs : List Value), w.ownsRow B e size (.slice (some ⟨g, 0, none⟩) n cap) n xs →
    ∃ xs', (w.setCells g o vs).ownsRow B e size (.slice (some ⟨g, 0, none⟩) n cap) n xs' ∧ w.grownBy (w.setCells g o vs) (some g) ∧ ∀ i, (i < o ∨ o + vs.length ≤ i) → xs'[i]? = xs[i]?
  | [], _, w, xs, h => ⟨xs, h, World.grownBy.refl _ _, fun _ _ => rfl⟩
  | u :: r, o, w, xs, h => by
    obtain ⟨h1, h2⟩ := h.stored o u
    obtain ⟨xs', h3, h4, h5⟩ := own_setCells r (o + 1) _ _ h1
    refine ⟨xs', h3, h2.trans h4, fun i hi => ?_⟩
    rw [List.length_cons] at hi
    rw [h5 i (by omega), List.getElem?_set_ne (by omega)]
theorem own_there {w : World} {B e size n g cap : Nat} {xs : List Value} (h : w.ownsRow B e size (.slice (some ⟨g, 0, none⟩) n cap) n xs) {o m : Nat} (hm : o + m ≤ n * size) : w.there g o m := fun j hj => by
  rw [h.cellAt (o + j) (by omega), List.getElem?_eq_getElem (by rw [h.1]; omega)]
  exact ⟨rfl, h.frozenAt _⟩
theorem wpList_store_to {P : Program} {ops : Array Oper} {rest : List Oper} {op : Oper} {a : Go.Act} {w w2 : World} {Q : Exit → Go.Act → World → Prop} (hgd : op.guard = none) (ty : TypeId) (x y : Operand) (ho : op.op = .store ty x y)
    (b o : Nat) (cs : List Value) (hx : a.eval x = .pointer (some ⟨b, o, none⟩)) (hy : a.eval y = .agg cs.toArray)
    (ht : w.there b o cs.length) (hi : (P.info? ty).map (·.size) = some cs.length) (h1 : ∀ v ∈ cs, v.oneCell' = true) (hw : w.setCells b o cs = w2)
    (h : wpList P ops Q rest (a.put op.dst undef) w2) : wpList P ops Q (op :: rest) a w := by
  subst hw
  refine wpList_store_mid hgd ty x y ho b o cs.toArray hx hy (by simpa using ht) (by simpa using hi) (all_oneCell_toArray h1) ?_
  simpa using h
def spoiltC : List Value := [.bool true, .int .i64 0, .int .i64 0, .int .i64 0, .int .i64 0, .string ⟨#[115, 112, 111, 105, 108, 116]⟩]
theorem spoilt_one : ∀ v ∈ spoiltC, v.oneCell' = true := by
  intro v hv
  simp only [spoiltC, List.mem_cons, List.not_mem_nil, or_false] at hv
  rcases hv with rfl | rfl | rfl | rfl | rfl | rfl <;> rfl
set_option maxRecDepth 100000 in
set_option maxHeartbeats 8000000 in
theorem do_any (w : World) (hT : Tabs w) (B b M r : Nat) (v : Value) (L : List Doc) (hB : 6 ≤ B) (h : Two B w b M r v L L) (hInv : Inv L) (x : Act) (hok : okA x) (hf0 : 0 ≤ x.fill) (hf1 : x.fill ≤ 255) (hn : x.ln = x.l.length) (hC : ∀ w', Below B w w' → ChgsAt w' x.lp x.l) :
    Calls Tryz.prog 14 #[.pointer (some ⟨b, 0, none⟩), .pointer (some ⟨r, 0, none⟩), actVal x] w fun e w' => e = .returned (.bool true) ∧ ∃ v', Two B w' b M r v' (actL L x) (actL L x) ∧ Step w w' M r v v' := by
  obtain ⟨V, hV⟩ : ∃ V, w.alloc (actBox x) = V := ⟨_, rfl⟩
  have bV : Below w.heap.size w V := by rw [← hV]; exact (Below.refl _ _).alloc (Nat.le_refl _) _
  have TV := h.below bV
  have SV : Step w V M r v v := Step.below bV
  have HBX : Hid (∀ wx v', Step V wx M r v v' → Box7 wx w.heap.size x) := Lib.hid fun wx v' hs => box7 (h.box (by rw [hV]; exact hs))
  have HT : Hid (∀ wx v', Step V wx M r v v' → Tabs wx) := Lib.hid fun wx v' hs => (hT.below bV).six ((TV.step hs).mono hB)
  have HCH : Hid (∀ wx v', Step V wx M r v v' → ChgsAt wx x.lp x.l) := Lib.hid fun wx v' hs => hC wx ((bV.mono h.sz).trans (TV.step hs))
  obtain ⟨L1, hL1⟩ : ∃ L1, fillsL (min x.fill.toNat 40) L = L1 := ⟨_, rfl⟩
  have hI1 : Inv L1 := by rw [← hL1]; exact hInv.fills _
  obtain ⟨LX, hLX⟩ : ∃ LX, actL L x = LX := ⟨_, rfl⟩
  rw [hLX]
  unfold actL at hLX
  rw [hL1] at hLX
  simp only at hLX
  have HLX := Lib.hid hLX
  have HL1 := Lib.hid hL1
  have HI1 := Lib.hid hI1
  have HI := Lib.hid hInv
  have HOK := Lib.hid hok
  have HN := Lib.hid hn
  have HSV := Lib.hid SV
  have hflo := hf0
  have hfhi := hf1
  have HTV := Lib.hid TV
  clear hT h hInv hn hC bV SV hLX hL1 hI1 hok
  unfold actVal
  unfold actBox at hV
  go_enter Tryz.func14, Tryz.ntmps14
  go_upto_block 0 with fail
  clear hV
  go_cut [7] (fun _ wx => ∃ v', Two B wx b M r v' L1 L1 ∧ Step V wx M r v v')
  case first =>
    go_wp2_with fail
    go_loopw [7] (fun iv wr => ∃ (j : Nat) (v' : Value), iv = .int .i64 j ∧ j ≤ 40 ∧ (j : Int) ≤ x.fill ∧ Two B wr b M r v' (fillsL j L) (fillsL j L) ∧ Step V wr M r v v') (fun iv _ => 40 - (RowKit.intOf iv).toNat)
    case atStart => exact ⟨0, v, rfl, by omega, hflo, HTV.out, Step.refl _ _ _ _⟩
    case round =>
      obtain ⟨j, v2, rfl, hj, hjf, T2, S2⟩ := hrel
      have c6 := (HBX.out _ _ S2).c6
      by_cases h1 : (j : Int) < x.fill
      · by_cases h2 : (j : Int) < 40
        · have hIj := HI.out.fills j
          obtain ⟨E, hE⟩ : ∃ E, openE (fillsL j L) (fillB j).data.toList (⟨#[]⟩ : ByteArray).data.toList = E := ⟨_, rfl⟩
          have HIJ := Lib.hid hIj
          have ho := fun w3 (T : Two B w3 b M r v2 (fillsL j L) (fillsL j L)) S => two_open (HT.out w3 v2 S) hB T (fillB j) ⟨#[]⟩ 1 (by rw [fill_size]; decide) (by decide) HIJ.out.len
          have hro := fun w3 (T : Two B w3 b M r v2 (fillsL (j + 1) L) (fillsL j L)) => two_ropen T HIJ.out.ord (fillB j) ⟨#[]⟩ 1 HIJ.out.len (by rw [fill_size]; decide) (by decide)
          simp only [hE] at ho hro
          have HO := Lib.hid ho
          have HRO := Lib.hid hro
          have hEE : (E == E) = true := by simp
          clear hE hIj ho hro
          go_wp2_with (first
            | (have GU := T4; clear GU; go_at_call 52; refine (filler_any j (by omega) _).mono ?_; rintro e w5 ⟨rfl, hb5⟩; have T5 := T4.below hb5; have S5 := S4.trans (Step.below hb5))
            | (go_at_call 52; refine (filler_any j (by omega) _).mono ?_; rintro e w3 ⟨rfl, hb3⟩; have T3 := T2.below hb3; have S3 := S2.trans (Step.below hb3))
            | (go_at_call 41; refine (HO.out _ T3 S3).mono ?_; rintro e w4 ⟨rfl, T4, s4⟩; have S4 := S3.trans s4)
            | (go_at_call 53; refine (HRO.out _ T5).mono ?_; rintro e w6 ⟨rfl, v6, T6, s6⟩; have S6 := S5.trans s6))
          go_roundw
          case rel => exact ⟨j + 1, v6, by go_num, by omega, by omega, T6, S6⟩
          case measure => simp [RowKit.intOf]; omega
        · go_wp2_with fail
          go_meet
          have e : fillsL j L = L1 := by rw [← HL1.out]; congr 1; omega
          exact ⟨v2, by rw [← e]; exact T2, S2⟩
      · go_wp2_with fail
        go_meet
        have e : fillsL j L = L1 := by rw [← HL1.out]; congr 1; omega
        exact ⟨v2, by rw [← e]; exact T2, S2⟩
  case rest =>
  obtain ⟨v1, T1, S1⟩ := hcut
  have c0 := (HBX.out _ _ S1).c0
  have c1 := (HBX.out _ _ S1).c1
  have c2 := (HBX.out _ _ S1).c2
  have c3 := (HBX.out _ _ S1).c3
  have c4 := (HBX.out _ _ S1).c4
  have c5 := (HBX.out _ _ S1).c5
  have c6 := (HBX.out _ _ S1).c6
  obtain ⟨hus, hts, hls, hxs⟩ := HOK.out
  have hI1 := HI1.out
  have hlen1 := hI1.len
  go_upto_block 2 with fail
  generalize bits BinOp.and IntKind.i64 x.todo 3 = S at *
  by_cases z0 : S = 0
  · subst z0
    have htx := fun w1 => text_any x.todo x.uri x.text x.times x.ver x.lp x.ln x.lc x.fill w1 hts
    have hRs : (repT x.text.data.toList x.times).length ≤ 70300 := repT_size _ (by rw [← Lib.size_eq]; exact hts)
    obtain ⟨R, hR⟩ : ∃ R : ByteArray, (⟨(repT x.text.data.toList x.times).toArray⟩ : ByteArray) = R := ⟨_, rfl⟩
    have hRz : R.size ≤ 1000000 := by rw [← hR, size_arr]; omega
    have hRl : R.data.toList = repT x.text.data.toList x.times := by rw [← hR]
    simp only [hR] at htx
    have HTX := Lib.hid htx
    have hLX := HLX.out
    rw [if_pos rfl, ← hRl] at hLX
    subst hLX
    obtain ⟨E, hE⟩ : ∃ E, openE L1 x.uri.data.toList R.data.toList = E := ⟨_, rfl⟩
    have ho := fun w3 v2 (T : Two B w3 b M r v2 L1 L1) S => two_open (HT.out w3 v2 S) hB T x.uri R x.ver (by omega) hRz hlen1
    have hro := fun w3 v2 (T : Two B w3 b M r v2 (openL L1 x.uri.data.toList R.data.toList x.ver) L1) => two_ropen T hI1.ord x.uri R x.ver hlen1 (by omega) hRz
    simp only [hE] at ho hro
    have HO := Lib.hid ho
    have HRO := Lib.hid hro
    have hEE : (E == E) = true := by simp
    clear hE ho hro htx hR hRl
    go_upto_region 9 with fail
    have T1d := T1.below ((Below.refl wc.heap.size wc).drew)
    have S1d := S1.trans (Step.below ((Below.refl wc.heap.size wc).drew))
    go_region_held3 (fun v => v.cell? ⟨w.heap.size, 0, none⟩ = some (.int .i64 x.todo) ∧ v.cell? ⟨w.heap.size, 1, none⟩ = some (.string x.uri) ∧ v.cell? ⟨w.heap.size, 2, none⟩ = some (.string x.text) ∧ v.cell? ⟨w.heap.size, 3, none⟩ = some (.int .i64 x.times) ∧ v.cell? ⟨w.heap.size, 4, none⟩ = some (.int .i64 x.ver) ∧ v.cell? ⟨w.heap.size, 5, none⟩ = some (.slice x.lp x.ln x.lc) ∧ v.cell? ⟨w.heap.size, 6, none⟩ = some (.int .u8 x.fill)) (first | exact ⟨c0, c1, c2, c3, c4, c5, c6⟩ | exact ⟨s0, s1, s2, s3, s4, s5, s6⟩ | exact ⟨t0, t1, t2, t3, t4, t5, t6⟩) (first
      | (go_at_call 54; refine (HTX.out _).mono ?_; rintro e w5 ⟨rfl, hb5⟩; have T5 := T1d.below hb5; have S5 := S1d.trans (Step.below hb5); obtain ⟨s0, s1, s2, s3, s4, s5, s6⟩ := HBX.out _ _ S5)
      | (go_at_call 41; refine (HO.out _ _ T5 S5).mono ?_; rintro e w6 ⟨rfl, T6, s66⟩; have S6 := S5.trans s66; clear s66; obtain ⟨t0, t1, t2, t3, t4, t5, t6⟩ := HBX.out _ _ S6))
    go_upto_region 10 with fail
    have T6d := T6.below ((Below.refl w6.heap.size w6).drew)
    have S6d := S6.trans (Step.below ((Below.refl w6.heap.size w6).drew))
    go_region_held3 (fun v => v.cell? ⟨w.heap.size, 0, none⟩ = some (.int .i64 x.todo) ∧ v.cell? ⟨w.heap.size, 1, none⟩ = some (.string x.uri) ∧ v.cell? ⟨w.heap.size, 2, none⟩ = some (.string x.text) ∧ v.cell? ⟨w.heap.size, 3, none⟩ = some (.int .i64 x.times) ∧ v.cell? ⟨w.heap.size, 4, none⟩ = some (.int .i64 x.ver) ∧ v.cell? ⟨w.heap.size, 5, none⟩ = some (.slice x.lp x.ln x.lc) ∧ v.cell? ⟨w.heap.size, 6, none⟩ = some (.int .u8 x.fill)) (first | exact ⟨t0, t1, t2, t3, t4, t5, t6⟩ | exact ⟨p0, p1, p2, p3, p4, p5, p6⟩ | exact ⟨q0, q1, q2, q3, q4, q5, q6⟩) (first
      | (go_at_call 54; refine (HTX.out _).mono ?_; rintro e w7 ⟨rfl, hb7⟩; have T7 := T6d.below hb7; have S7 := S6d.trans (Step.below hb7); obtain ⟨p0, p1, p2, p3, p4, p5, p6⟩ := HBX.out _ _ S7)
      | (go_at_call 53; refine (HRO.out _ _ T7).mono ?_; rintro e w8 ⟨rfl, v8, T8, s88⟩; have S8 := S7.trans s88; clear s88; obtain ⟨q0, q1, q2, q3, q4, q5, q6⟩ := HBX.out _ _ S8))
    go_wp2_with fail
    go_ret
    exact ⟨rfl, v8, T8, HSV.out.trans S8⟩
  · have z0f : (S == 0) = false := beq_eq_false_iff_ne.2 z0
    have hLX := HLX.out
    rw [if_neg z0] at hLX
    by_cases z3 : S = 3
    · subst z3
      rw [if_pos rfl] at hLX
      subst hLX
      obtain ⟨E, hE⟩ : ∃ E, closeE L1 x.uri.data.toList = E := ⟨_, rfl⟩
      have ho := fun w3 v2 (T : Two B w3 b M r v2 L1 L1) => two_close T x.uri (by omega)
      have hro := fun w3 v2 (T : Two B w3 b M r v2 (without x.uri.data.toList L1) L1) => two_rclose T hI1.ord x.uri hlen1
      simp only [hE] at ho hro
      have HO := Lib.hid ho
      have HRO := Lib.hid hro
      have hEE : (E == E) = true := by simp
      clear hE ho hro
      go_wp2_with (first
        | (go_at_call 55; refine (HO.out _ _ T1).mono ?_; rintro e w6 ⟨rfl, T6, s66⟩; have S6 := S1.trans s66; clear s66; obtain ⟨t0, t1, t2, t3, t4, t5, t6⟩ := HBX.out _ _ S6)
        | (go_at_call 56; refine (HRO.out _ _ T6).mono ?_; rintro e w8 ⟨rfl, v8, T8, s88⟩; have S8 := S6.trans s88; clear s88))
      go_ret
      exact ⟨rfl, v8, T8, HSV.out.trans S8⟩
    · have z3f : (S == 3) = false := beq_eq_false_iff_ne.2 z3
      rw [if_neg z3] at hLX
      subst hLX
      have hchs := HCH.out _ _ S1
      obtain ⟨ov, wo, hrun, hrow, hbo, g1, cp, rfl⟩ := append_chgs wc x.lp x.ln x.lc x.l HN.out (by have := HN.out; omega) hchs
      have ba : Below wc.heap.size wc (wc.alloc (.cells #[] 78)) := (Below.refl _ _).alloc (Nat.le_refl _) _
      obtain ⟨a0, a1, a2, a3, a4, a5, a6⟩ := HBX.out _ _ (S1.trans (Step.below ba))
      have To := T1.below hbo
      have So := S1.trans (Step.below hbo)
      obtain ⟨o0, o1, o2, o3, o4, o5, o6⟩ := HBX.out _ _ So
      have hg1 : wc.heap.size ≤ g1 ∧ g1 < wo.heap.size := hrow.lt g1 rfl
      have hn8 : x.ln ≤ 8 := by have := HN.out; omega
      clear c0 c1 c2 c3 c4 c5 c6 ba hchs
      go_upto_region 15 with (first
        | (at_builtin; refine wpList_append_run (v := .slice (some ⟨wc.heap.size, 0, none⟩) 0 0) (vx := .slice x.lp x.ln x.lc) rfl (.tmp 71) (.tmp 73) 33 rfl rfl rfl hrun ?_))
      have hgM : g1 ≠ M := by have := T1.dv.lt; omega
      have hgb : g1 ≠ b := by have := T1.dv.lt; omega
      have hgr : g1 ≠ r := by have := T1.rv.lt; omega
      have hgv : v1.ownBlock ≠ some g1 := by intro e; have := (T1.rv.row.lt _ e).2; omega
      obtain ⟨po, co, hpo, hcho⟩ := row_chgs2 HN.out hxs hrow
      obtain rfl : po = some ⟨g1, 0, none⟩ := by cases hpo; rfl
      have hS1 : ∀ d ∈ L1, d.text.length ≤ 65536 := fun d hd => (hI1.all d hd).2.2
      have hX1 : ∀ y ∈ x.l, y.text.size ≤ 70000 := fun y hy => by have := hxs y hy; omega
      have hc1 := two_change (HT.out wo v1 So) hB To x.uri x.ver (some ⟨g1, 0, none⟩) x.ln cp x.l (by omega) HN.out (by omega) hcho hlen1 hS1 hX1
      have hc2 := fun w3 p c (T : Two B w3 b M r v1 (chgL L1 x.uri.data.toList x.ver x.l) L1) hI => two_rchange T hI1.ord x.uri x.ver p x.ln c x.l HN.out (by omega) hI hlen1 hS1 hX1
      obtain ⟨E, hE⟩ : ∃ E, chgE L1 x.uri.data.toList x.ver x.l = E := ⟨_, rfl⟩
      obtain ⟨LL, hLL⟩ : ∃ LL, chgL L1 x.uri.data.toList x.ver x.l = LL := ⟨_, rfl⟩
      simp only [hE, hLL] at hc1 hc2 ⊢
      have hEE : (E == E) = true := by simp
      have HC1 := Lib.hid hc1
      have HC2 := Lib.hid hc2
      have HXS := Lib.hid hxs
      have HROW := Lib.hid hrow
      have hwcV : V.heap.size ≤ wc.heap.size := S1.size
      have HLE := Lib.hid hLL
      clear hc1 hc2 hE hLL hpo hcho hS1 hX1 hrun hrow hbo T1 S1 a0 a1 a2 a3 a4 a5 a6 hI1 hxs
      go_upto_region 16 with (first
        | (go_at_call 43; refine HC1.out.mono ?_; rintro e w6 ⟨rfl, T6, s66⟩; have S6 := So.trans s66; have hrow6 := own_same HROW.out (s66.block g1 hg1.2 hgM hgr hgv); clear s66; obtain ⟨t0, t1, t2, t3, t4, t5, t6⟩ := HBX.out _ _ S6))
      have T6d := T6.below ((Below.refl w6.heap.size w6).drew)
      have S6d := S6.trans (Step.below ((Below.refl w6.heap.size w6).drew))
      have hrow6d : w6.drew.ownsRow wc.heap.size 78 6 (.slice (some ⟨g1, 0, none⟩) x.ln cp) x.ln (chgsC x.l) := hrow6
      have HR6 := Lib.hid hrow6d
      have hg6 : g1 < w6.drew.heap.size := (hrow6d.lt g1 rfl).2
      clear hrow6d hrow6
      go_region_held3 (fun v => v.cell? ⟨w.heap.size, 0, none⟩ = some (.int .i64 x.todo) ∧ v.cell? ⟨w.heap.size, 1, none⟩ = some (.string x.uri) ∧ v.cell? ⟨w.heap.size, 2, none⟩ = some (.string x.text) ∧ v.cell? ⟨w.heap.size, 3, none⟩ = some (.int .i64 x.times) ∧ v.cell? ⟨w.heap.size, 4, none⟩ = some (.int .i64 x.ver) ∧ v.cell? ⟨w.heap.size, 5, none⟩ = some (.slice x.lp x.ln x.lc) ∧ v.cell? ⟨w.heap.size, 6, none⟩ = some (.int .u8 x.fill)) (first | exact ⟨t0, t1, t2, t3, t4, t5, t6⟩ | exact ⟨p0, p1, p2, p3, p4, p5, p6⟩ | exact ⟨q0, q1, q2, q3, q4, q5, q6⟩) (first
        | (go_at_call 58; refine (theirs_any _ x.lp x.ln x.lc x.l HN.out (by omega) (HCH.out _ _ S6d)).mono ?_; rintro e w7 ⟨tv, rfl, hrow7, hb7⟩; obtain ⟨p7, cp7, rfl, hch7⟩ := row_chgs2 HN.out HXS.out hrow7; have HCH7 := Lib.hid hch7; have T7 := T6d.below hb7; have S7 := S6d.trans (Step.below hb7); have HR7 := Lib.hid (own_same HR6.out (hb7.block g1 hg6)); have hg7 := Nat.lt_of_lt_of_le hg6 hb7.size; clear hch7 hrow7; obtain ⟨p0, p1, p2, p3, p4, p5, p6⟩ := HBX.out _ _ S7)
        | (go_at_call 57; refine (HC2.out _ _ _ T7 HCH7.out).mono ?_; rintro e w8 ⟨rfl, T8, s88⟩; have S8 := S7.trans s88; have HR8 := Lib.hid (own_same HR7.out (s88.block g1 hg7 hgM hgr hgv)); clear s88; obtain ⟨q0, q1, q2, q3, q4, q5, q6⟩ := HBX.out _ _ S8))
      go_wp2_with fail
      go_loopw [14] (fun iv wr => ∃ (k : Nat) (cs : List Value), iv = .int .i64 k ∧ k ≤ x.ln ∧ wr.ownsRow wc.heap.size 78 6 (.slice (some ⟨g1, 0, none⟩) x.ln cp) x.ln cs ∧ (∀ j f, k ≤ j → f < 6 → cs[j * 6 + f]? = (chgsC x.l)[j * 6 + f]?) ∧ Two B wr b M r v1 LL LL ∧ Step V wr M r v v1) (fun iv _ => x.ln - (RowKit.intOf iv).toNat)
      case atStart => exact ⟨0, _, rfl, Nat.zero_le _, HR8.out, fun _ _ _ _ => rfl, T8, S8⟩
      case round =>
        obtain ⟨k, cs, rfl, hk, hown, hcs, TR, SR⟩ := hrel
        have HTR := Lib.hid TR
        have HSR := Lib.hid SR
        have HCS := Lib.hid hcs
        by_cases hkn : (k : Int) < (x.ln : Int)
        · have hkl : k < x.l.length := by have := HN.out; omega
          obtain ⟨y, hy⟩ : ∃ y, x.l[k]? = some y := ⟨_, List.getElem?_eq_getElem hkl⟩
          obtain ⟨a, ha, hA⟩ := HCH.out _ _ SR k y hy
          obtain ⟨q0, q1, q2, q3, q4, q5, q6⟩ := HBX.out _ _ SR
          rw [ha] at q5
          obtain ⟨y0, y1, y2, y3, y4, y5, _, _⟩ := hA
          have hd : ∀ f, f < 6 → wr.cell? ⟨g1, k * 6 + f, none⟩ = (chgC y)[f]? := fun f hf => by
            rw [hown.cellAt (k * 6 + f) (by omega), HCS.out k f (Nat.le_refl _) hf]
            exact chgsC_at hy f hf
          have d0 : wr.cell? ⟨g1, k * 6, none⟩ = some (.bool y.whole) := hd 0 (by omega)
          have d1 : wr.cell? ⟨g1, k * 6 + 1, none⟩ = some (.int .i64 y.a) := hd 1 (by omega)
          have d2 : wr.cell? ⟨g1, k * 6 + 2, none⟩ = some (.int .i64 y.b) := hd 2 (by omega)
          have d3 : wr.cell? ⟨g1, k * 6 + 3, none⟩ = some (.int .i64 y.c) := hd 3 (by omega)
          have d4 : wr.cell? ⟨g1, k * 6 + 4, none⟩ = some (.int .i64 y.d) := hd 4 (by omega)
          have d5 : wr.cell? ⟨g1, k * 6 + 5, none⟩ = some (.string y.text) := hd 5 (by omega)
          have HQ : Hid (∀ m, (wr.drewN m).ownsRow wc.heap.size 78 6 (.slice (some ⟨g1, 0, none⟩) x.ln cp) x.ln cs ∧ Two B (wr.drewN m) b M r v1 LL LL ∧ Step V (wr.drewN m) M r v v1) := Lib.hid fun m =>
            ⟨own_same hown rfl, TR.below (below_draws (Below.refl _ _) m), SR.trans (Step.below (below_draws (Below.refl _ _) m))⟩
          clear hd hy ha hcs TR SR hown HTR HSR
          go_wp2_with fail
          go_quiet (fail)
          have hq := HQ.out nq
          clear HQ d0 d1 d2 d3 d4 d5 y0 y1 y2 y3 y4 y5 q0 q1 q2 q3 q4 q5 q6
          generalize wr.drewN nq = wq at *
          obtain ⟨hown, TR, SR⟩ := hq
          have hth := own_there (o := k * 6) (m := 6) hown (by omega)
          obtain ⟨cs2, hown2, hg2, hout⟩ := own_setCells spoiltC (k * 6) _ _ hown
          have TR2 := TR.other hg2 hgb hgM hgr hgv
          have SR2 := SR.other hg2 (by omega)
          obtain ⟨W2, hW2⟩ : ∃ W2, wq.setCells g1 (k * 6) spoiltC = W2 := ⟨_, rfl⟩
          rw [hW2] at hown2 hg2 TR2 SR2
          have HO2 := Lib.hid hown2
          have HTR2 := Lib.hid TR2
          have HSR2 := Lib.hid SR2
          have HOUT := Lib.hid hout
          have HTH := Lib.hid hth
          have HW2 := Lib.hid hW2
          clear hth hown2 hg2 hout TR SR hown TR2 SR2 hW2
          go_upto_region 22 with fail
          go_wp2_with (first
            | (refine wpList_store_to rfl 78 (.tmp 110) (.tmp 109) rfl g1 (k * 6) spoiltC rfl rfl HTH.out (by kernel_rfl) spoilt_one HW2.out ?_))
          go_roundw
          case rel => exact ⟨k + 1, cs2, by go_num, by omega, HO2.out, fun j f hj hf => by
            rw [HOUT.out _ (by simp only [spoiltC, List.length_cons, List.length_nil]; omega)]
            exact HCS.out j f (by omega) hf, HTR2.out, HSR2.out⟩
          case measure => simp [RowKit.intOf]; omega
        · go_wp2_with fail
          go_ret
          exact ⟨rfl, v1, by rw [HLE.out]; exact HTR.out, HSV.out.trans HSR.out⟩
end Go.Proofs.Dc
