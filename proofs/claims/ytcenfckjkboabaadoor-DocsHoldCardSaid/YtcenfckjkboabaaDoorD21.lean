/- The laws' text: a text so many times. -/
import Derived.Test.YtcenfckjkboabaaDoorD20
import Derived.Test.YtcenfckjkboabaaDoorA1
import Derived.Lib.ConvBytes
import Derived.Lib.AppendStr
import Derived.Lib.SmallJoins
namespace Go.Proofs.Dc
open Go.RowKit Go.Proofs Go.Lib Go.Maps

/-- the text that is built -/
def repG : Nat → Int → List UInt8 → List UInt8 → Int → List UInt8
  | 0, _, acc, _, _ => acc
  | n + 1, i, acc, t, times => if i < times ∧ acc.length ≤ 70000 then repG n (i + 1) (acc ++ t) t times else acc
def repT (t : List UInt8) (times : Int) : List UInt8 := repG 19999 1 t t times
theorem repG_size : ∀ (n : Nat) (i : Int) (acc t : List UInt8) (times : Int), t.length ≤ 300 → acc.length ≤ 70300 → (repG n i acc t times).length ≤ 70300
  | 0, i, acc, t, times, _, h => h
  | n + 1, i, acc, t, times, ht, h => by
    rw [repG]
    split
    · rename_i hc
      exact repG_size n _ _ t times ht (by rw [List.length_append]; omega)
    · exact h
theorem repT_size {t : List UInt8} (times : Int) (h : t.length ≤ 300) : (repT t times).length ≤ 70300 := repG_size _ _ _ _ _ h (by omega)
/-- bytes of the call's own; what may be frozen lies behind them -/
def OwnB (w : World) (base : Nat) (v : Value) (l : List UInt8) : Prop :=
  ∃ g cap cur fz, v = .slice (some ⟨g, 0, none⟩) l.length cap ∧ base ≤ g ∧ w.heap[g]? = some (.cells cur 5 fz) ∧ (fz = (0, 0) ∨ cap ≤ fz.1) ∧ l.length ≤ cap ∧ cap ≤ maxLen ∧ cur.size = cap ∧ cur.toList.take l.length = l.map fun b => Value.int .u8 b.toNat
theorem OwnB.block {w : World} {base : Nat} {v : Value} {l : List UInt8} (h : OwnB w base v l) : ∃ g cap, v = .slice (some ⟨g, 0, none⟩) l.length cap ∧ base ≤ g ∧ l.length ≤ cap ∧ cap ≤ maxLen := by
  obtain ⟨g, cap, cur, fz, h1, h2, _, _, h3, h4, _⟩ := h
  exact ⟨g, cap, h1, h2, h3, h4⟩
theorem run_storeB (g o : Nat) (fz : Nat × Nat) : ∀ (vs : List Value) (i : Nat) (cur : Array Value) (w : World), w.heap[g]? = some (.cells cur 5 fz) → (fz = (0, 0) ∨ cur.size ≤ fz.1) → o + i + vs.length ≤ cur.size → (∀ v ∈ vs, v.oneCell' = true) →
    (storeCells ⟨g, o, none⟩ vs i).run Tryd.prog w = .ok () (w.setRow g (cur.toList.take (o + i) ++ vs ++ cur.toList.drop (o + i + vs.length)).toArray)
  | [], i, cur, w, hg, _, _, _ => by
    simp only [storeCells, List.append_nil, List.length_nil, Nat.add_zero, List.take_append_drop, Array.toArray_toList]
    rw [setRow_self w g cur 5 fz hg]
    rfl
  | v :: rest, i, cur, w, hg, hfz, hl, h1 => by
    have hi : o + i < cur.size := by simp at hl; omega
    have hadd : (⟨g, o, none⟩ : Addr).add i = ⟨g, o + i, none⟩ := by unfold Addr.add; split <;> simp_all
    have hcell : w.cell? ⟨g, o + i, none⟩ = some cur[o + i] := by simp [World.cell?, hg, hi]
    have hfro : w.frozen? ⟨g, o + i, none⟩ = false := by
      obtain ⟨lo, up⟩ := fz
      simp only [World.frozen?, hg, Bool.and_eq_false_iff, decide_eq_false_iff_not]
      rcases hfz with h | h
      · right
        have := congrArg Prod.snd h
        simp only at this
        omega
      · left
        simp only at h
        omega
    have hst : (store ((⟨g, o, none⟩ : Addr).add i) v).run Tryd.prog w = .ok () (w.setRow g (cur.setIfInBounds (o + i) v)) := by
      rw [hadd, run_store Tryd.prog w _ v _ (h1 v (by simp)), hcell]
      simp [hfro, setCell_eq_setRow w g (o + i) cur 5 fz v hg]
    have ih := run_storeB g o fz rest (i + 1) (cur.setIfInBounds (o + i) v) (w.setRow g (cur.setIfInBounds (o + i) v)) (setRow_heap w g cur _ 5 _ hg) (by simpa using hfz) (by simp at hl ⊢; omega) (fun x hx => h1 x (by simp [hx]))
    simp only [storeCells, Sem.run_bind, hst, Result.andThen_ok, ih, setRow_setRow]
    congr 3
    have e := list_seg_step cur.toList (o + i) v rest (by simp at hl ⊢; omega)
    simpa [Array.toList_setIfInBounds, Nat.add_assoc] using e
theorem infoB {t : TypeId} {z : Option Value} {n m : Nat} (h : (Tryd.prog.info? t).map (fun i => (i.zero, i.size, i.bytes)) = some (z, n, m)) : ∃ i, Tryd.prog.info? t = some i ∧ i.zero = z ∧ i.size = n ∧ i.bytes = m := by
  cases e : Tryd.prog.info? t with
  | none => simp [e] at h
  | some i => simp [e] at h; exact ⟨i, rfl, h.1, h.2.1, h.2.2⟩
theorem info5 : (Tryd.prog.info? 5).map (fun i => (i.zero, i.size, i.bytes)) = some (some (.int .u8 0), 1, 1) := by kernel_rfl
theorem strCells_map (s : ByteArray) : strCells s = s.data.toList.map fun b => Value.int .u8 b.toNat := rfl
/-- one more text is appended -/
theorem append_B (w : World) (base : Nat) (v : Value) (l : List UInt8) (h : OwnB w base v l) (s : ByteArray) (hb : base ≤ w.heap.size) (hs : l.length + s.size ≤ 1000000) :
    ∃ v' w', (Builtin.append_ #[48, 9] 48 #[v, .string s]).run Tryd.prog w = .ok v' w' ∧ OwnB w' base v' (l ++ s.data.toList) ∧ Below base w w' := by
  obtain ⟨i, hi, hz0, hz1, hz2⟩ := infoB info5
  obtain ⟨g, cap, cur, fz, rfl, hbg, hg, hfz, hlc, hcm, hcs, htake⟩ := h
  have hlen : (l ++ s.data.toList).length = l.length + s.size := by rw [List.length_append, ← Lib.size_eq]
  have hmap : (l ++ s.data.toList).map (fun b => Value.int .u8 b.toNat) = (l.map fun b => Value.int .u8 b.toNat) ++ strCells s := by rw [List.map_append, strCells_map]
  have hll : (l.map fun b => Value.int .u8 (b.toNat : Int)).length = l.length := by simp
  by_cases hroom : l.length + s.size ≤ cap
  · have hf := run_firstCells_string (P := Tryd.prog) w 1 s
    have hst := run_storeB g l.length fz (strCells s) 0 cur w hg (by rw [hcs]; exact hfz) (by rw [strCells_length, hcs]; omega) (strCells_oneCell s)
    simp only [Nat.add_zero, strCells_length] at hst
    have hr : (Builtin.append_ #[48, 9] 48 #[.slice (some ⟨g, 0, none⟩) l.length cap, .string s]).run Tryd.prog w = .ok (.slice (some ⟨g, 0, none⟩) (l.length + s.size) cap) (w.setRow g (cur.toList.take l.length ++ strCells s ++ cur.toList.drop (l.length + s.size)).toArray) := by
      simp [Builtin.append_, run_underlying Tryd.underlying48, run_underlying Tryd.underlying9, Go.sizeOf, typeInfo, hi, hz1, Builtin.lenOf, hroom, hf, Addr.add_lit, hst]
    refine ⟨_, _, hr, ⟨g, cap, _, fz, by rw [hlen], hbg, setRow_heap w g cur _ 5 _ hg, hfz, by omega, hcm, ?_, ?_⟩, (Below.refl _ _).grown (row := some g) ⟨rfl, rfl, rfl, by simp, fun k _ hk => setRow_other w g k _ (fun e => hk (by rw [e]))⟩ hb (fun k e => by cases e; exact hbg)⟩
    · simp only [List.size_toArray, List.length_append, List.length_take, List.length_drop, Array.length_toList, strCells_length]
      omega
    · rw [htake, hmap, hlen]
      have : l.length + s.size = ((l.map fun b => Value.int .u8 (b.toNat : Int)) ++ strCells s).length := by rw [List.length_append, hll, strCells_length]
      rw [this]
      exact List.take_left
  · have holds : ∀ j u, (l.map fun b => Value.int .u8 (b.toNat : Int))[j]? = some u → w.cell? ((⟨g, 0, none⟩ : Addr).add j) = some u := fun j u hu => by
      have hadd : (⟨g, 0, none⟩ : Addr).add j = ⟨g, j, none⟩ := by unfold Addr.add; split <;> simp_all
      rw [hadd, Go.cell_of_row w g j cur 5 fz hg]
      rw [← htake, List.getElem?_take] at hu
      split at hu
      · simpa using hu
      · cases hu
    have hr := run_append_grow_string (P := Tryd.prog) w 48 9 48 5 i (.int .u8 0) Tryd.underlying48 Tryd.underlying9 hi hz0 ⟨g, 0, none⟩ l.length cap (l.map fun b => Value.int .u8 (b.toNat : Int)) (by rw [hz1, hll, Nat.mul_one]) holds s (by omega) (by omega) (by rw [hz2]; exact growslice_fits (by omega) (by unfold maxLen at hcm; omega))
    have hge := grownCap_ge w (l.length + s.size) cap 5
    have hcm2 : grownCap w (l.length + s.size) cap 5 ≤ maxLen := grownCap_le_maxLen w (l.length + s.size) cap 5 (by unfold maxLen; omega)
    refine ⟨_, _, hr, ⟨w.heap.size, _, _, (0, 0), by rw [hlen], hb, Go.heap_alloc_new w.drew _, .inl rfl, by rw [hlen]; exact hge, hcm2, ?_, ?_⟩, (Below.refl base w).grown (row := none) ⟨rfl, rfl, rfl, by simp, fun k hk _ => Below.heap_alloc w.drew _ k hk⟩ hb (fun k e => by cases e)⟩
    · have hz3 : (Value.int IntKind.u8 0).cells.size = 1 := rfl
      simp only [Array.size_append, List.size_toArray, size_zeroCells, hz3, hll, strCells_length]
      omega
    · simp only [Array.toList_append, List.append_assoc]
      rw [hmap, hlen]
      have : l.length + s.size = ((l.map fun b => Value.int .u8 (b.toNat : Int)) ++ strCells s).length := by rw [List.length_append, hll, strCells_length]
      rw [this, ← List.append_assoc]
      exact List.take_left
theorem wpList_append_B {w w' : World} {ops : Array Oper} {rest : List Oper} {o : Oper} {a : Go.Act} {Q : Exit → Go.Act → World → Prop} (hgd : o.guard = none) (sl x : Operand)
    (ho : o.op = .call { callee := .builtin .append, args := #[sl, x], argTypes := #[48, 9] }) (hty : o.type = 48) (v v' : Value) (s : ByteArray) (hs : a.eval sl = v) (hx : a.eval x = .string s)
    (hrun : (Builtin.append_ #[48, 9] 48 #[v, .string s]).run Tryd.prog w = .ok v' w') (h : wpList Tryd.prog ops Q rest (a.put o.dst v') w') : wpList Tryd.prog ops Q (o :: rest) a w := by
  refine wpList_plain hgd fun K hK => ?_
  unfold Oper.wp execOp
  simp only [ho, hty, resolve, invoke, builtin, Sem.run_bind, Sem.run_pure, Result.andThen_ok, List.map_toArray, List.map_cons, List.map_nil, hs, hx, hrun]
  exact hK _ _ h
theorem own_start (w : World) (s : ByteArray) (hs : s.size ≤ 1000000) : OwnB (bytesWorld w 5 s) w.heap.size (.slice (some ⟨w.heap.size, 0, none⟩) s.size (grownCap w s.size 0 5)) s.data.toList := by
  have hge := grownCap_ge w s.size 0 5
  have hsz : (bytesCells w 5 s).size = grownCap w s.size 0 5 := by
    simp [bytesCells]
    have : s.data.size = s.size := rfl
    omega
  refine ⟨w.heap.size, _, _, _, by rw [← Lib.size_eq], Nat.le_refl _, bytesWorld_at_new w 5 s, .inr (by rw [hsz]; exact Nat.le_refl _), by rw [← Lib.size_eq]; exact hge, grownCap_le_maxLen w s.size 0 5 (by unfold maxLen; omega), hsz, ?_⟩
  unfold bytesCells
  rw [Array.toList_append, Array.toList_map]
  have : s.data.toList.length = (s.data.toList.map fun b => Value.int .u8 (b.toNat : Int)).length := by simp
  rw [this]
  exact List.take_left
/-- the bytes as a text -/
theorem back_B {w : World} {base : Nat} {v : Value} {l : List UInt8} (h : OwnB w base v l) : (convert 48 9 v).run Tryd.prog w = .ok (.string ⟨l.toArray⟩) w := by
  obtain ⟨g, cap, cur, fz, rfl, hbg, hg, hfz, hlc, hcm, hcs, htake⟩ := h
  refine run_convert_bytes_back _ 48 9 5 ⟨g, 0, none⟩ cap l (by kernel_rfl) (by kernel_rfl) (by kernel_rfl) fun j hj => ?_
  have hadd : (⟨g, 0, none⟩ : Addr).add j = ⟨g, j, none⟩ := by unfold Addr.add; split <;> simp_all
  rw [hadd, Go.cell_of_row w g j cur 5 fz hg]
  have e : (cur.toList.take l.length)[j]? = some (.int .u8 (l[j].toNat : Int)) := by rw [htake]; simp [hj]
  rw [List.getElem?_take_of_lt hj] at e
  simpa using e
theorem repG_step {n : Nat} {i : Int} {acc t : List UInt8} {times : Int} (h : i < times ∧ acc.length ≤ 70000) : repG (n + 1) i acc t times = repG n (i + 1) (acc ++ t) t times := by rw [repG, if_pos h]
theorem repG_stop {n : Nat} {i : Int} {acc t : List UInt8} {times : Int} (h : ¬ (i < times ∧ acc.length ≤ 70000)) : repG n i acc t times = acc := by
  cases n with
  | zero => rfl
  | succ n => rw [repG, if_neg h]
def actVal (x : Act) : Value := .agg #[.int .i64 x.todo, .string x.uri, .string x.text, .int .i64 x.times, .int .i64 x.ver, .slice x.lp x.ln x.lc, .int .u8 x.fill]
set_option maxRecDepth 100000 in
set_option maxHeartbeats 2000000 in
theorem text_any (a : Int) (u t : ByteArray) (times ver : Int) (p : Option Addr) (n c : Nat) (f : Int) (w : World) (ht : t.size ≤ 300) :
    Calls Tryd.prog 18 #[.agg #[.int .i64 a, .string u, .string t, .int .i64 times, .int .i64 ver, .slice p n c, .int .u8 f]] w fun e w' => e = .returned (.string ⟨(repT t.data.toList times).toArray⟩) ∧ Below w.heap.size w w' := by
  obtain ⟨V, hV⟩ : ∃ V, w.alloc (.cells #[.int .i64 a, .string u, .string t, .int .i64 times, .int .i64 ver, .slice p n c, .int .u8 f] 29) = V := ⟨_, rfl⟩
  have hVh : V.heap[w.heap.size]? = some (.cells #[.int .i64 a, .string u, .string t, .int .i64 times, .int .i64 ver, .slice p n c, .int .u8 f] 29) := by rw [← hV]; exact World.alloc_heap_new w _
  have hVs : V.heap.size = w.heap.size + 1 := by rw [← hV]; simp
  have hVB : Below w.heap.size w V := by rw [← hV]; exact (Below.refl _ _).alloc (Nat.le_refl _) _
  have hcv := Lib.run_convert_string_bytes (P := Tryd.prog) V 9 48 5 t Tryd.underlying9 Tryd.underlying48 Tryd.underlying5
  have hst := own_start V t (by omega)
  have hb0 := Joins.below_bytesWorld V.heap.size V 5 t (Nat.le_refl _)
  obtain ⟨W, hW⟩ : ∃ W, bytesWorld V 5 t = W := ⟨_, rfl⟩
  obtain ⟨cap, hcap⟩ : ∃ cap, grownCap V t.size 0 5 = cap := ⟨_, rfl⟩
  rw [hW, hcap] at hcv hst
  rw [hW] at hb0
  have hcells : ∀ w1, Below V.heap.size V w1 → w1.cell? ⟨w.heap.size, 2, none⟩ = some (.string t) ∧ w1.cell? ⟨w.heap.size, 3, none⟩ = some (.int .i64 times) := fun w1 hb => by
    have h1 := (hb.block w.heap.size (by omega)).trans hVh
    constructor <;> simp [World.cell?, h1]
  obtain ⟨e2, e3⟩ := hcells V (Below.refl _ _)
  obtain ⟨R, hR⟩ : ∃ R, repT t.data.toList times = R := ⟨_, rfl⟩
  rw [hR]
  unfold repT at hR
  have HR := Lib.hid hR
  have HST := Lib.hid hst
  have hsl := Lib.size_eq t
  have HSL := Lib.hid hsl
  have HC := Lib.hid hcells
  have hVB2 : ∀ {w'}, Below V.heap.size V w' → Below w.heap.size w w' := fun h => hVB.trans (h.mono hVB.size)
  have HB2 : Hid (∀ {w'}, Below V.heap.size V w' → Below w.heap.size w w') := Lib.hid hVB2
  have HVS := Lib.hid hVs
  clear hR hst hW hcap hVh hsl hcells hVB hVB2 hVs
  go_enter Tryd.func18, Tryd.ntmps18
  go_wp2
  clear hV
  go_loopw [3, 4] (fun bv iv wr => ∃ (k : Nat) (acc : List UInt8), iv = .int .i64 k ∧ 1 ≤ k ∧ k ≤ 20000 ∧ OwnB wr V.heap.size bv acc ∧ acc.length ≤ 70300 ∧ repG (20000 - k) k acc t.data.toList times = R ∧ Below V.heap.size V wr) (fun _ iv _ => 20000 - (RowKit.intOf iv).toNat)
  case atStart => exact ⟨1, t.data.toList, rfl, Nat.le_refl _, by decide, HST.out, by rw [← Lib.size_eq]; omega, HR.out, hb0⟩
  case round =>
    obtain ⟨k, acc, rfl, hk1, hk2, hown, hacc, hrep, hB⟩ := hrel
    obtain ⟨g, cp, rfl, hbg, hlc, hcm⟩ := hown.block
    obtain ⟨c2, c3⟩ := HC.out wr hB
    have hzB := hB.size
    clear hcv e2 e3 hb0
    by_cases h1 : (k : Int) < times
    · by_cases h2 : (k : Int) < 20000
      · by_cases h3 : (acc.length : Int) ≤ 70000
        · obtain ⟨m, hm⟩ : ∃ m, 20000 - k = m + 1 := ⟨20000 - k - 1, by omega⟩
          have hnext : repG (20000 - (k + 1)) ((k + 1 : Nat) : Int) (acc ++ t.data.toList) t.data.toList times = R := by
            rw [hm, repG_step ⟨h1, by omega⟩] at hrep
            rw [show 20000 - (k + 1) = m by omega]
            exact hrep
          obtain ⟨v', w', hrun, hown', hb'⟩ := append_B wr V.heap.size _ acc hown t hzB (by omega)
          obtain ⟨g', cp', rfl, hbg', hlc', hcm'⟩ := hown'.block
          have HRUN := Lib.hid hrun
          have HN := Lib.hid hnext
          have HO := Lib.hid hown'
          have hlen : (acc ++ t.data.toList).length ≤ 70300 := by rw [List.length_append, ← HSL.out]; omega
          generalize acc ++ t.data.toList = A2 at *
          clear hnext hown' hown hrep hm hrun
          go_wp2_with (first | (at_builtin; refine wpList_append_B rfl _ _ rfl rfl _ _ _ rfl rfl HRUN.out ?_))
          go_roundw
          case rel => exact ⟨k + 1, A2, by go_num, by omega, by omega, HO.out, hlen, HN.out, hB.trans hb'⟩
          case measure => simp [RowKit.intOf]; omega
        · have hfin : acc = R := by rw [← hrep]; exact (repG_stop (by omega)).symm
          have hback := back_B hown
          subst hfin
          clear hown hrep
          go_wp2
          go_ret
          exact ⟨rfl, HB2.out hB⟩
      · have hfin : acc = R := by rw [← hrep, show 20000 - k = 0 by omega]; rfl
        have hback := back_B hown
        subst hfin
        clear hown hrep
        go_wp2
        go_ret
        exact ⟨rfl, HB2.out hB⟩
    · have hfin : acc = R := by rw [← hrep]; exact (repG_stop (by omega)).symm
      have hback := back_B hown
      subst hfin
      clear hown hrep
      go_wp2
      go_ret
      exact ⟨rfl, HB2.out hB⟩
end Go.Proofs.Dc
