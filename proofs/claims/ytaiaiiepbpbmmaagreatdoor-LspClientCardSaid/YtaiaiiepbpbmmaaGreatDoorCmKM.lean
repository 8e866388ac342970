/- Merged texts: NH, NI, NL, NO. -/
import Derived.Test.YtaiaiiepbpbmmaaGreatDoorCmKN
import Derived.Lib.BufferWrite
import Derived.Test.YtaiaiiepbpbmmaaGreatDoorCmKX
import Derived.Laws.MakeOwn
import Derived.Laws.IdiomStrings
/- NH: The pieces of a text with splices, in plain Lean; copy from a string of any length. -/
namespace Go.Proofs.Ls
open Go.RowKit Go.Maps Go.Lib Go.Proofs.Utf Go.Proofs.Jt Go.Proofs

/-- what stands one behind the other in what splices make of a text, from a place on -/
def piecesV (T : ByteArray) : Int → List SpV → List ByteArray
  | a, [] => [T.extract a.toNat T.size]
  | a, s :: l => T.extract a.toNat s.fr.toNat :: ⟨s.text.toArray⟩ :: piecesV T s.till l
theorem piecesV_cons (T : ByteArray) (a : Int) (s : SpV) (l : List SpV) : piecesV T a (s :: l) = T.extract a.toNat s.fr.toNat :: ⟨s.text.toArray⟩ :: piecesV T s.till l := rfl
/-- the bytes of pieces -/
def bytesV (l : List ByteArray) : List UInt8 := l.flatMap (·.data.toList)
theorem bytesV_append (l k : List ByteArray) : bytesV (l ++ k) = bytesV l ++ bytesV k := List.flatMap_append ..
theorem bytesV_one (x : ByteArray) : bytesV [x] = x.data.toList := by simp [bytesV]
theorem piecesV_length (T : ByteArray) : ∀ (l : List SpV) (a : Int), (piecesV T a l).length = 2 * l.length + 1
  | [], _ => rfl
  | s :: l, a => by
    have := piecesV_length T l s.till
    simp only [piecesV_cons, List.length_cons, this]
    omega
theorem piecesV_size (T : ByteArray) (m : Nat) : ∀ (l : List SpV) (a : Int), (∀ s ∈ l, s.text.length ≤ m) → ∀ x ∈ piecesV T a l, x.size ≤ T.size + m
  | [], a, _, x, hx => by
    obtain rfl := List.mem_singleton.1 hx
    simp
    omega
  | s :: l, a, h, x, hx => by
    rw [piecesV_cons] at hx
    rcases List.mem_cons.1 hx with rfl | hx
    · simp
      omega
    · rcases List.mem_cons.1 hx with rfl | hx
      · have := h s (by simp)
        show s.text.toArray.size ≤ _
        simp
        omega
      · exact piecesV_size T m l s.till (fun s hs => h s (List.mem_cons_of_mem _ hs)) x hx
/-- no more bytes than the text's and the splices' -/
theorem bytesV_len (T : ByteArray) (m : Nat) : ∀ (l : List SpV) (a : Int), 0 ≤ a → (fits T.size l a = true) → (∀ s ∈ l, s.text.length ≤ m) → (bytesV (piecesV T a l)).length + a.toNat ≤ max T.size a.toNat + m * l.length
  | [], a, h0, _, _ => by
    show (bytesV [_]).length + _ ≤ _
    rw [bytesV_one, Array.length_toList, show (T.extract a.toNat T.size).data.size = (T.extract a.toNat T.size).size from rfl]
    simp
    omega
  | s :: l, a, h0, hf, h => by
    rw [fits_cons] at hf
    split at hf
    · cases hf
    · rename_i hn
      have ih := bytesV_len T m l s.till (by omega) hf (fun s hs => h s (List.mem_cons_of_mem _ hs))
      have hs := h s (by simp)
      rw [piecesV_cons]
      show (bytesV ([_] ++ ([_] ++ piecesV T s.till l))).length + _ ≤ _
      rw [bytesV_append, bytesV_append, bytesV_one, bytesV_one, List.length_append, List.length_append, Array.length_toList, show (T.extract a.toNat s.fr.toNat).data.size = (T.extract a.toNat s.fr.toNat).size from rfl]
      simp only [ByteArray.size_extract]
      rw [show s.text.toArray.toList.length = s.text.length by simp, List.length_cons, Nat.mul_succ]
      omega
theorem fits_place {n : Int} {s : SpV} {l : List SpV} {a : Int} (h : fits n (s :: l) a = true) : a ≤ s.fr ∧ s.fr ≤ s.till ∧ s.till ≤ n ∧ fits n l s.till = true := by
  rw [fits_cons] at h
  split at h
  · cases h
  · refine ⟨by omega, by omega, by omega, h⟩
/-- 'copy(dst, s)' from a string of any length: as many bytes as have room -/
theorem run_copy_row_min {P : Program} (w : World) (dT sT ty elem : TypeId) (g o dLen dCap k : Nat) (s : ByteArray) (cur : Array Value) (t : TypeId) (hk : Nat.min s.size dLen = k)
    (hu : P.underlying dT = some (.slice elem)) (hs : (P.info? elem).map (·.size) = some 1) (hg : w.heap[g]? = some (.cells cur t (0, 0))) (hfit : o + k ≤ cur.size) :
    (Builtin.copy_ #[dT, sT] ty #[.slice (some ⟨g, o, none⟩) dLen dCap, .string s]).run P w =
      .ok (goInt k) (w.setRow g (cur.toList.take o ++ Lib.byteCells (s.data.toList.take k) ++ cur.toList.drop (o + k)).toArray) := by
  have hks : k ≤ s.data.toList.length := by rw [← Lib.size_eq, ← hk]; exact Nat.min_le_left _ _
  have hlen : (Lib.byteCells (s.data.toList.take k)).length = k := by rw [Lib.byteCells_length, List.length_take]; omega
  have hst := run_storeCells_at P g o t (Lib.byteCells (s.data.toList.take k)) 0 cur w hg (by rw [hlen]; simpa using hfit) (Lib.byteCells_one _)
  have htk : List.take k (List.map (fun b : UInt8 => Value.int IntKind.u8 (b.toNat : Int)) s.data.toList) = Lib.byteCells (s.data.toList.take k) := by
    rw [← List.map_take]
    rfl
  rw [hlen] at hst
  simp only [Nat.add_zero] at hst
  cases hq : P.info? elem with
  | none => simp [hq] at hs
  | some i =>
    simp [Builtin.copy_, run_underlying hu, Builtin.lenOf, Builtin.firstCells, sizeOf, typeInfo, hq, hk]
    rw [htk, hst]
    simp [Result.andThen]
/-- .. where there is no room -/
theorem run_copy_no_room {P : Program} (w : World) (dT sT ty elem : TypeId) (d : Option Addr) (dCap : Nat) (s : ByteArray)
    (hu : P.underlying dT = some (.slice elem)) (hs : ((P.info? elem).map (·.size)).isSome = true) :
    (Builtin.copy_ #[dT, sT] ty #[.slice d 0 dCap, .string s]).run P w = .ok (goInt 0) w := by
  cases hq : P.info? elem with
  | none => simp [hq] at hs
  | some i =>
    cases d <;> simp [Builtin.copy_, run_underlying hu, Builtin.lenOf, Builtin.firstCells, sizeOf, typeInfo, hq, storeCells]
end Go.Proofs.Ls
/- NI: emend/edits.pieces: the iterator hands its caller's body each piece in turn. -/
namespace Go.Proofs.Ls
open Go.RowKit Go.Shelf Go.Maps Go.Lib Go.Proofs.Utf Go.Proofs.Jt Go.Proofs
open Go.Proofs.YtaiaiiepbpbmmaaGreatDoor (grown_of)

attribute [local go_sem] Oper.semAt_some

/-- a piece -/
abbrev Pc := { x : ByteArray // x.size ≤ 1000000 }
abbrev Pc.encs (x : Pc) : Array Value := #[.string x.1]
def pcs (T : ByteArray) (l : List SpV) (h : ∀ x ∈ piecesV T 0 l, x.size ≤ 1000000) : List Pc := (piecesV T 0 l).pmap Subtype.mk h
theorem pcs_val (T : ByteArray) (l : List SpV) (h : ∀ x ∈ piecesV T 0 l, x.size ≤ 1000000) : (pcs T l h).map (·.1) = piecesV T 0 l := by
  unfold pcs
  rw [List.map_pmap]
  exact List.pmap_eq_self.2 (fun _ _ => rfl)
theorem pcs_length (T : ByteArray) (l : List SpV) (h : ∀ x ∈ piecesV T 0 l, x.size ≤ 1000000) : (pcs T l h).length = 2 * l.length + 1 := by
  rw [← piecesV_length T l 0, ← pcs_val T l h, List.length_map]
theorem pc_cons {rest : List Pc} {y : ByteArray} {t : List ByteArray} (h : rest.map (·.1) = y :: t) : ∃ (x : Pc) (rest' : List Pc), rest = x :: rest' ∧ x.1 = y ∧ rest'.map (·.1) = t := by
  cases rest with
  | nil => simp at h
  | cons x r => exact ⟨x, r, rfl, (List.cons.inj h).1, (List.cons.inj h).2⟩
/-- all cells but those of the caller's own blocks stay -/
structure KpM (M : Nat → Prop) (A B : World) : Prop where
  size : A.heap.size ≤ B.heap.size
  keep : ∀ (i : Nat) (o : Obj), ¬ M i → A.heap[i]? = some o → o.isCells = true → B.heap[i]? = some o
theorem KpM.refl (M : Nat → Prop) (A : World) : KpM M A A := ⟨Nat.le_refl _, fun _ _ _ h _ => h⟩
theorem KpM.trans {M : Nat → Prop} {A B C : World} (h : KpM M A B) (k : KpM M B C) : KpM M A C := ⟨Nat.le_trans h.size k.size, fun i o hi ho hc => k.keep i o hi (h.keep i o hi ho hc) hc⟩
theorem KpM.put {M : Nat → Prop} (W : World) (l : Nat) (o o' : Obj) (h : W.heap[l]? = some o) (hc : o.isCells = false) : KpM M W (W.putObj l o') := ⟨(grownBy_putObj' W l o').size, fun i q _ hq hqc => by
  have := (grownBy_putObj' W l o').block i (Array.getElem?_eq_some_iff.1 hq).1 (fun e => by cases e; rw [hq] at h; cases h; rw [hc] at hqc; cases hqc)
  rw [this]
  exact hq⟩
theorem KpM.below {M : Nat → Prop} {A B : World} (h : Below A.heap.size A B) : KpM M A B := ⟨h.size, fun i _ _ ho _ => (h.block i (Array.getElem?_eq_some_iff.1 ho).1).trans ho⟩
theorem KpM.boxed {M : Nat → Prop} {A B : World} {b : Nat} {t : TypeId} {v : Value} (h : KpM M A B) (hb : Boxed A b t v) (hm : ¬ M b) : Boxed B b t v := h.keep b _ hm hb rfl
theorem cell_obj {w : World} {q : Addr} {v : Value} (h : w.cell? q = some v) : ∃ o : Obj, w.heap[q.block]? = some o ∧ o.isCells = true := by
  unfold World.cell? at h
  split at h
  · rename_i c t f ho
    exact ⟨_, ho, rfl⟩
  · cases h
theorem cell_objs {w w' : World} {q : Addr} {v : Value} (h : w.cell? q = some v) (he : w'.heap[q.block]? = w.heap[q.block]?) : w'.cell? q = some v := by
  unfold World.cell? at h ⊢
  rw [he]
  exact h
theorem KpM.sp {M : Nat → Prop} {A B : World} {q : Addr} {s : SpV} (h : KpM M A B) (hs : SpC A q s) (hm : ¬ M q.block) : SpC B q s := by
  obtain ⟨o, ho, hc⟩ := cell_obj hs.c0
  have hB := h.keep _ _ hm ho hc
  have he : B.heap[q.block]? = A.heap[q.block]? := by rw [hB, ho]
  exact ⟨cell_objs hs.c0 he, cell_objs hs.c1 he, cell_objs hs.c2 he, (Array.getElem?_eq_some_iff.1 hB).1⟩
theorem KpM.spl {M : Nat → Prop} {A B : World} {p : Option Addr} {l : List SpV} (h : KpM M A B) (hs : SplP A p l) (hm : ∀ a, p = some a → l ≠ [] → ¬ M a.block) : SplP B p l := fun i s hi => by
  obtain ⟨a, h1, h2⟩ := hs i s hi
  exact ⟨a, h1, h.sp h2 (by rw [add_blk]; exact hm a h1 (fun e => by rw [e] at hi; cases hi))⟩
theorem pieces_any (T : ByteArray) (p : Option Addr) (n c : Nat) (w : World) :
    Calls Tryz.prog 125 #[.string T, .slice p n c] w fun e w' => e = .returned (.func (.func 179) #[] #[.pointer (some ⟨w.heap.size + 1, 0, none⟩), .pointer (some ⟨w.heap.size, 0, none⟩)]) ∧ w' = (w.alloc (.cells #[.string T] 9)).alloc (.cells #[.slice p n c] 91) := by
  go_enter Tryz.func125, Tryz.ntmps125
  go_wp2
  go_ret
  exact ⟨rfl, rfl⟩
set_option maxRecDepth 1000000 in
set_option maxHeartbeats 8000000 in
theorem pieces1_in (T : ByteArray) (_hT : T.size ≤ 500000) (l : List SpV) (hl : l.length ≤ 1000) (hsz : ∀ x ∈ piecesV T 0 l, x.size ≤ 1000000) (hfit : fits T.size l 0 = true) {p : Option Addr} {c : Nat} (n k lb tb : Nat) (hn : 1 ≤ n) (M : Nat → Prop) (J Jx : List Pc → World → Prop)
    (hY : ∀ pre x W, J pre W → pre.length < 2 * l.length + 1 → YieldAt Fence.wide (n - 1) Tryz.prog k (Pc.encs x) W fun e W' =>
      (e = .returned (.bool true) ∧ J (pre ++ [x]) W' ∧ KpM M W W') ∨ (e = .returned (.bool false) ∧ Jx (pre ++ [x]) W'))
    (W : World) (hbt : Boxed W tb 9 (.string T)) (hbl : Boxed W lb 91 (.slice p l.length c)) (hs : SplP W p l) (hM : ¬ M tb ∧ ¬ M lb ∧ (∀ a, p = some a → l ≠ [] → ¬ M a.block) ∧ ∀ i, M i → i < W.heap.size) (hJa : AbidesFrom W.heap.size J) (h0 : J [] W) :
    CallsIn Fence.wide n Tryz.prog 179 #[.func (.yield k) #[] #[], .pointer (some ⟨lb, 0, none⟩), .pointer (some ⟨tb, 0, none⟩)] W fun e W' => (∃ v, e = .returned v) ∧
      ((∃ ys, ys = pcs T l hsz ∧ J ys W') ∨ (∃ pre, pre <+: pcs T l hsz ∧ Jx pre W')) := by
  have hc0 := hbl.cell
  have hlen := pcs_length T l hsz
  refine callsIn_of_wp Tryz.func179 rfl trivial ?_ rfl
  simp only [Tryz.ntmps179, List.size_toArray, List.length_cons, List.length_nil, Nat.reduceAdd, Nat.reduceSub, Array.replicate_succ, Array.replicate_zero, List.push_toArray, List.append_toArray, List.nil_append, List.cons_append]
  gi_wp2
  gi_loopw [4, 9] (fun av iv wr => ∃ (pre rest : List Pc) (a : Nat) (i : Nat), av = .int .i64 a ∧ iv = .int .i64 i ∧ i ≤ l.length ∧ pcs T l hsz = pre ++ rest ∧ rest.map (·.1) = piecesV T a (l.drop i) ∧ pre.length = 2 * i ∧ a ≤ T.size ∧ fits T.size (l.drop i) a = true ∧ J pre wr ∧ KpM M W wr ∧ W.heap.size ≤ wr.heap.size)
    (fun _ iv _ => l.length - (RowKit.intOf iv).toNat)
  case atStart => exact ⟨[], pcs T l hsz, 0, 0, rfl, rfl, Nat.zero_le _, rfl, pcs_val T l hsz, rfl, Nat.zero_le _, hfit, h0, KpM.refl _ _, Nat.le_refl _⟩
  case round =>
    obtain ⟨pre, rest, a, i, rfl, rfl, hi, hsp, hr, hpl, haT, hfi, hJ, hK, hZ⟩ := hrel
    have hb := hK.boxed hbt hM.1
    by_cases hin : (i : Int) < (l.length : Int)
    · obtain ⟨s, hs1⟩ : ∃ s, l[i]? = some s := ⟨_, List.getElem?_eq_getElem (by omega)⟩
      obtain ⟨q, rfl, hsc⟩ := hK.spl hs hM.2.2.1 i s hs1
      obtain ⟨g0, g1, g2, _⟩ := hsc
      obtain ⟨TT, hTT⟩ : ∃ B : ByteArray, (⟨s.text.toArray⟩ : ByteArray) = B := ⟨_, rfl⟩
      rw [hTT] at g2
      rw [drop_cons hs1] at hr hfi
      rw [piecesV_cons, hTT] at hr
      obtain ⟨h1, h2, h3, h4⟩ := fits_place hfi
      obtain ⟨f, hfe⟩ : ∃ f : Nat, s.fr = f := ⟨s.fr.toNat, by omega⟩
      obtain ⟨u, hue⟩ : ∃ u : Nat, s.till = u := ⟨s.till.toNat, by omega⟩
      rw [hfe] at g0 hr h1 h2
      rw [hue] at g1 hr h2 h3 h4
      simp only [Int.toNat_natCast] at hr
      obtain ⟨x1, r1, rfl, hx1, hr⟩ := pc_cons hr
      obtain ⟨x2, r2, rfl, hx2, hr⟩ := pc_cons hr
      have hxe1 : Pc.encs x1 = #[.string (T.extract a f)] := by rw [Pc.encs, hx1]
      have hxe2 : Pc.encs x2 = #[.string TT] := by rw [Pc.encs, hx2]
      obtain ⟨wa, hwa⟩ : ∃ wa, wr.alloc (.cells #[.int .i64 f, .int .i64 u, .string TT] 107) = wa := ⟨_, rfl⟩
      have hra := alloc_b hwa
      have hxb := row_at hwa
      have ct : wa.cell? ⟨tb, 0, none⟩ = some (.string T) := Boxed.cell ((hra.block tb hb.lt).trans hb)
      have y0 : wa.cell? ⟨wr.heap.size, 0, none⟩ = some (.int .i64 f) := by simp [World.cell?, hxb]
      obtain ⟨fn, tmps, assign, body, hy, hR⟩ := hY pre x1 wa (hJa pre wr wa none hJ (grown_of hra) (fun r e => by cases e)) (by omega)
      rw [hxe1] at hy
      have hno : ¬ M wr.heap.size := fun h => by have := hM.2.2.2 _ h; omega
      have hKa : KpM M W wa := hK.trans (KpM.below hra)
      have hza : W.heap.size ≤ wa.heap.size := by have := hra.size; omega
      have HX := Lib.hid hxb
      have HH := Lib.hid (And.intro hsp (And.intro hr h4))
      clear hr h4 hfi hsp hxb hJ hK hTT hx1 hx2 hxe1
      gi_wp2
      refine hR.mono ?_
      rintro e W3 (⟨rfl, hJ3, hk3⟩ | ⟨rfl, hJx3⟩)
      · have hx3 := hk3.keep _ _ hno HX.out rfl
        have y2 : W3.cell? ⟨wr.heap.size, 2, none⟩ = some (.string TT) := by simp [World.cell?, hx3]
        obtain ⟨fn2, tmps2, assign2, body2, hy2, hR2⟩ := hY (pre ++ [x1]) x2 W3 hJ3 (by rw [List.length_append, List.length_singleton]; omega)
        rw [hxe2] at hy2
        clear hy hR y0
        gi_wp2
        refine hR2.mono ?_
        rintro e W4 (⟨rfl, hJ4, hk4⟩ | ⟨rfl, hJx4⟩)
        · have hx4 := hk4.keep _ _ hno hx3 rfl
          have y1 : W4.cell? ⟨wr.heap.size, 1, none⟩ = some (.int .i64 u) := by simp [World.cell?, hx4]
          clear hy2 hR2 y2
          gi_wp2
          go_roundw
          case rel => exact ⟨pre ++ [x1] ++ [x2], r2, u, i + 1, rfl, by go_num, by omega, by rw [HH.out.1]; simp, HH.out.2.1, by simp; omega, by omega, HH.out.2.2, hJ4, (hKa.trans hk3).trans hk4, ((hKa.trans hk3).trans hk4).size⟩
          case measure => simp [RowKit.intOf]; omega
        · gi_wp2
          refine bodyPost_ret (results_none rfl _ _ _) rfl ?_
          exact ⟨⟨_, rfl⟩, .inr ⟨_, ⟨r2, by rw [HH.out.1]; simp⟩, hJx4⟩⟩
      · gi_wp2_with (first | (refine ⟨fun _ h => (by cases h), ?_⟩))
        refine bodyPost_ret (results_none rfl _ _ _) rfl ?_
        exact ⟨⟨_, rfl⟩, .inr ⟨_, ⟨x2 :: r2, by rw [HH.out.1]; simp⟩, hJx3⟩⟩
    · obtain rfl : i = l.length := by omega
      rw [List.drop_length] at hr
      obtain ⟨x1, r1, rfl, hx1, hr⟩ := pc_cons hr
      obtain rfl : r1 = [] := List.map_eq_nil_iff.1 hr
      simp only [Int.toNat_natCast] at hx1
      have hxe1 : Pc.encs x1 = #[.string (T.extract a T.size)] := by rw [Pc.encs, hx1]
      have ct := hb.cell
      obtain ⟨fn, tmps, assign, body, hy, hR⟩ := hY pre x1 wr hJ (by omega)
      rw [hxe1] at hy
      gi_wp2
      refine hR.mono ?_
      rintro e W3 (⟨rfl, hJ3, hk3⟩ | ⟨rfl, hJx3⟩)
      · gi_wp2
        go_end0
        exact ⟨⟨_, rfl⟩, .inl ⟨_, hsp.symm, hJ3⟩⟩
      · gi_wp2
        go_end0
        exact ⟨⟨_, rfl⟩, .inr ⟨_, ⟨[], by rw [hsp]; simp⟩, hJx3⟩⟩
end Go.Proofs.Ls
/- NL: Bytes made, written piece by piece, and read as a text (for edits.Apply). -/
namespace Go.Proofs.Ls
open Go.RowKit Go.Shelf Go.Maps Go.Lib Go.Proofs.Utf Go.Proofs.Jt Go.Proofs

/-- so many bytes, of which some are there already -/
def fillL (n : Nat) (c : List UInt8) : List UInt8 := c.take n ++ List.replicate (n - c.length) 0
theorem fillL_length (n : Nat) (c : List UInt8) : (fillL n c).length = n := by
  unfold fillL
  rw [List.length_append, List.length_take, List.length_replicate]
  omega
theorem fillL_nil (n : Nat) : fillL n [] = List.replicate n 0 := by simp [fillL]
theorem fillL_all {n : Nat} {c : List UInt8} (h : c.length = n) : fillL n c = c := by
  subst h
  simp [fillL]
theorem fillL_add (n : Nat) (c s : List UInt8) (a k : Nat) (ha : min n c.length = a) (hk : min s.length (n - a) = k) : (fillL n c).take a ++ s.take k ++ (fillL n c).drop (a + k) = fillL n (c ++ s) := by
  unfold fillL
  by_cases h : c.length < n
  · obtain rfl : c.length = a := by omega
    rw [List.take_of_length_le (by omega : c.length ≤ n), List.take_left, List.take_append, List.take_of_length_le (by omega : c.length ≤ n), List.drop_append, List.drop_replicate, List.length_append]
    rw [show c.drop (c.length + k) = [] from List.drop_eq_nil_of_le (by omega), List.nil_append]
    rw [show s.take (n - c.length) = s.take k by
      by_cases h2 : s.length ≤ n - c.length
      · rw [List.take_of_length_le h2, List.take_of_length_le (by omega)]
      · rw [show n - c.length = k by omega]]
    rw [show n - c.length - (c.length + k - c.length) = n - (c.length + s.length) by omega]
  · obtain rfl : n = a := by omega
    obtain rfl : k = 0 := by omega
    rw [show n - c.length = 0 by omega, show n - (c ++ s).length = 0 by rw [List.length_append]; omega]
    simp [List.take_append, show n - c.length = 0 by omega, List.take_take]
/-- a block of bytes -/
def Rw (W : World) (g : Nat) (R : List UInt8) : Prop := W.heap[g]? = some (.cells (Lib.byteCells R).toArray 5 (0, 0))
theorem info5 : (Tryz.prog.info? 5).map (fun i => (i.zero, i.size, i.bytes)) = some (some (.int .u8 0), 1, 1) := by kernel_rfl
theorem made_bytes (n : Nat) (hn : n ≤ 1000000) (w : World) : (Instr.makeSlice 189 (.int .i64 (n : Int)) (.int .i64 (n : Int))).run Tryz.prog w = .ok (.slice (some ⟨w.heap.size, 0, none⟩) n n) (w.alloc (.cells (Lib.byteCells (fillL n [])).toArray 5)) := by
  obtain ⟨i, hi, hz0, hz1, hz2⟩ : ∃ i, Tryz.prog.info? 5 = some i ∧ i.zero = some (.int .u8 0) ∧ i.size = 1 ∧ i.bytes = 1 := by
    cases e : Tryz.prog.info? 5 with
    | none => have := info5; simp [e] at this
    | some i => have := info5; simp [e] at this; exact ⟨i, rfl, this.1, this.2.1, this.2.2⟩
  have h := run_make (P := Tryz.prog) w 189 5 i (.int .u8 0) Tryz.underlying189 hi hz0 .i64 .i64 (n : Int) (n : Int) (by omega) (by omega) (by rw [hz2]; omega) (by omega)
  rw [hz1] at h
  have hc : (Value.int IntKind.u8 0).cells = #[.int .u8 0] := rfl
  have hm : madeCells (Value.int IntKind.u8 0).cells (n * 1) = (Lib.byteCells (fillL n [])).toArray := by
    rw [fillL_nil]
    apply Array.ext
    · simp [madeCells, Lib.byteCells]
    · intro j h1 h2
      simp [madeCells, hc, Lib.byteCells, Nat.mod_one]
  rw [← hm]
  simpa using h
theorem read_bytes {W : World} {g n : Nat} {R : List UInt8} (h : Rw W g R) (hn : R.length = n) : (convert 189 9 (.slice (some ⟨g, 0, none⟩) n n)).run Tryz.prog W = .ok (.string ⟨R.toArray⟩) W := by
  subst hn
  refine run_convert_bytes_back (P := Tryz.prog) W 189 9 5 ⟨g, 0, none⟩ R.length R (by kernel_rfl) (by kernel_rfl) (by kernel_rfl) fun j hj => ?_
  have e : (⟨g, 0, none⟩ : Addr).add j = ⟨g, j, none⟩ := add0 g j
  rw [e, cell_of_row _ _ _ _ _ _ h]
  simp [Lib.byteCells, hj]
theorem sizeOf5 (W : World) : (sizeOf 5).run Tryz.prog W = .ok 1 W := by
  cases e : Tryz.prog.info? 5 with
  | none => have := info5; simp [e] at this
  | some i =>
    have := info5
    simp [e] at this
    simp [sizeOf, typeInfo, e, this.2.1]
/-- what stands behind a place of these bytes -/
theorem run_behind (g n a : Nat) (h : a ≤ n) : ∃ o c, (o = a ∨ n - a = 0) ∧ ∀ W, (Instr.slice 189 (.slice (some ⟨g, 0, none⟩) n n) (some (.int .i64 (a : Int))) none none).run Tryz.prog W = .ok (.slice (some ⟨g, o, none⟩) (n - a) c) W := by
  have he : Tryz.prog.elem 189 = 5 := by simp [Program.elem, Tryz.underlying189]
  have ht : Tryz.prog.underlying 189 = some (.slice (Tryz.prog.elem 189)) := by rw [he]; exact Tryz.underlying189
  by_cases h0 : n = a
  · refine ⟨0, n - a, .inr (by omega), fun W => ?_⟩
    rw [run_slice_l W 189 _ _ _ ht .i64 _ (by omega) (by omega), he, sizeOf5]
    simp [Result.andThen, sliced, h0]
  · refine ⟨a, n - a, .inl rfl, fun W => ?_⟩
    rw [run_slice_l W 189 _ _ _ ht .i64 _ (by omega) (by omega), he, sizeOf5]
    by_cases h1 : a = 0
    · subst h1; simp [Result.andThen, sliced, Addr.add, h0]
    · simp [Result.andThen, sliced, Addr.add, h0, h1]
theorem byteCells_append (a b : List UInt8) : Lib.byteCells (a ++ b) = Lib.byteCells a ++ Lib.byteCells b := by simp [Lib.byteCells]
set_option maxRecDepth 100000 in
/-- a piece is written -/
theorem run_piece {W : World} {g n a o c k : Nat} {cs : List UInt8} (h : Rw W g (fillL n cs)) (ha : min n cs.length = a) (ho : o = a ∨ n - a = 0) (s : ByteArray) (hk : min s.size (n - a) = k) :
    ∃ V, (Builtin.copy_ #[189, 9] 3 #[.slice (some ⟨g, o, none⟩) (n - a) c, .string s]).run Tryz.prog W = .ok (.int .i64 (k : Int)) V ∧ Rw V g (fillL n (cs ++ s.data.toList)) ∧ W.grownBy V (some g) := by
  have hz : (Tryz.prog.info? 5).map (·.size) = some 1 := by kernel_rfl
  have hl := fillL_length n cs
  have hgo : goInt (k : Int) = .int .i64 (k : Int) := rfl
  have hadd := fillL_add n cs s.data.toList a k ha (by rw [← Lib.size_eq]; exact hk)
  by_cases h0 : n - a = 0
  · obtain rfl : k = 0 := by omega
    refine ⟨W, ?_, ?_, World.grownBy.refl W _⟩
    · rw [h0]
      exact run_copy_no_room (P := Tryz.prog) W 189 9 3 5 _ c s Tryz.underlying189 (by rw [Option.isSome_map]; exact (by cases e : Tryz.prog.info? 5 with | none => simp [e] at hz | some _ => rfl))
    · rw [← hadd]
      unfold Rw at h ⊢
      rw [h]
      simp
  · obtain rfl : o = a := by omega
    have hr := run_copy_row_min (P := Tryz.prog) W 189 9 3 5 g o (n - o) c k s _ 5 hk Tryz.underlying189 hz h (by simp [Lib.byteCells_length, hl]; omega)
    refine ⟨_, hr, ?_, gb_setRow _ _ _⟩
    unfold Rw
    rw [heap_setRow_self h]
    congr 2
    rw [← hadd, byteCells_append, byteCells_append]
    simp [Lib.byteCells, List.map_take, List.map_drop]
theorem wp_copy_at {o : Oper} {a : Act} {w : World} {K : Act → World → Prop} {Q : Exit → Act → World → Prop} (d x : Operand) (hop : o.op = Op.call { callee := Callee.builtin Builtin.copy, args := #[d, x], argTypes := #[189, 9] }) (hty : o.type = 3) {dv xv r : Value} (hd : a.eval d = dv) (hx : a.eval x = xv) {W : World}
    (hrun : (Builtin.copy_ #[189, 9] 3 #[dv, xv]).run Tryz.prog w = .ok r W) (hK : K (a.put o.dst r) W) : Oper.wp Tryz.prog o a w K Q := by
  unfold Oper.wp
  simp [execOp, hop, hty, resolve, invoke, builtin, hd, hx, hrun, Result.andThen]
  exact hK
end Go.Proofs.Ls
/- NO: edits.Apply: what fitting splices make of a text. Printed by gen_no.py. -/
namespace Go.Proofs.Ls
open Go.RowKit Go.Shelf Go.Maps Go.Lib Go.Proofs.Utf Go.Proofs.Jt Go.Proofs
open Go.Proofs.YtaiaiiepbpbmmaaGreatDoor (grown_of anyIn_of NoDefer noDefer_of Bx.ok Bx.at)

attribute [local go_sem] Oper.semAt_some

theorem region_round_late {l n id : Nat} {P : Program} {ops : Array Oper} {Q : Exit → Act → World → Prop} {S : World → Prop} {a : Act} {w : World} (st : Nat) (hm : P.follows .mixedOrders = true) (hd : NoDefer ops) (hQ : ¬ LetsOut Q)
    (h : wpAnyU P .any ops Q S st ops.size (Array.replicate ops.size false) a w.drew) : (Code.region id ops true).wpIn (Fence.wide.inRound l) n P Q a w :=
  wpIn_region_any hm (anyIn_of hd hQ _ _ _ _ (wpAny_of_late _ _ _ _ h))
theorem pieces_stops (T : ByteArray) (hT : T.size ≤ 500000) (l : List SpV) (hl : l.length ≤ 1000) (hsz : ∀ x ∈ piecesV T 0 l, x.size ≤ 1000000) (hfit : fits T.size l 0 = true) {p : Option Addr} {c : Nat} (n lb tb : Nat) (hn : 1 ≤ n) (M : Nat → Prop) (w : World)
    (hbt : Boxed w tb 9 (.string T)) (hbl : Boxed w lb 91 (.slice p l.length c)) (hs : SplP w p l) (hM : ¬ M tb ∧ ¬ M lb ∧ (∀ a, p = some a → l ≠ [] → ¬ M a.block) ∧ ∀ i, M i → i < w.heap.size) :
    SeqStopsK Fence.wide n Tryz.prog 179 #[.pointer (some ⟨lb, 0, none⟩), .pointer (some ⟨tb, 0, none⟩)] Pc.encs (KpM M) (fun ys => ys = pcs T l hsz) (fun pre => pre <+: pcs T l hsz) (2 * l.length + 1) w := fun k J Jx W hW hJ _ hY h0 =>
  pieces1_in T hT l hl hsz hfit n k lb tb hn M J Jx hY W ((hW.block tb hbt.lt).trans hbt) ((hW.block lb hbl.lt).trans hbl) (hs.below hW) ⟨hM.1, hM.2.1, hM.2.2.1, fun i hi => Nat.lt_of_lt_of_le (hM.2.2.2 i hi) hW.size⟩ hJ h0
def tot (l : List Pc) : List UInt8 := bytesV (l.map (·.1))
theorem tot_add (l : List Pc) (x : Pc) : tot (l ++ [x]) = tot l ++ x.1.data.toList := by
  unfold tot
  rw [List.map_append, bytesV_append, List.map_cons, List.map_nil, bytesV_one]
theorem tot_le : ∀ l : List Pc, (tot l).length ≤ 1000000 * l.length
  | [] => Nat.le_refl _
  | x :: l => by
    have ih := tot_le l
    have h1 : tot (x :: l) = x.1.data.toList ++ tot l := by
      unfold tot
      rw [List.map_cons]
      show bytesV ([x.1] ++ l.map (·.1)) = _
      rw [bytesV_append, bytesV_one]
    have h2 := x.2
    rw [Lib.size_eq] at h2
    rw [h1, List.length_append, List.length_cons]
    omega
theorem KpM.set {M : Nat → Prop} (W : World) (b : Nat) (v : Value) (hb : M b) : KpM M W (W.setCell ⟨b, 0, none⟩ v) := ⟨(gb_set W b 0 v).size, fun i _ hi ho _ => (Below.heap_setCell _ _ _ i (fun e => hi (by rw [e]; exact hb))).trans ho⟩
theorem KpM.grown {M : Nat → Prop} {A B : World} {b : Nat} (h : A.grownBy B (some b)) (hb : M b) : KpM M A B := ⟨h.size, fun i _ hi ho _ => (h.block i (Array.getElem?_eq_some_iff.1 ho).1 (fun e => hi (by rw [Option.some.inj e]; exact hb))).trans ho⟩
theorem obj_ok {W W' : World} {row : Option Nat} {b : Nat} {o : Obj} (h : W.heap[b]? = some o) (hc : o.isCells = true) (hg : W.grownBy W' row) (hr : ∀ r, row = some r → ∃ q : Obj, W.heap[r]? = some q ∧ q.isCells = false) : W'.heap[b]? = some o :=
  (hg.block b (Array.getElem?_eq_some_iff.1 h).1 (fun e => by obtain ⟨q, hq, hqc⟩ := hr b e.symm; rw [h] at hq; cases hq; rw [hc] at hqc; cases hqc)).trans h
/-- the two boxes that the region of the writing reads -/
def S14 (A G B n a : Nat) (X : World) : Prop := X.cell? ⟨A, 0, none⟩ = some (.int .i64 (a : Int)) ∧ X.cell? ⟨B, 0, none⟩ = some (.slice (some ⟨G, 0, none⟩) n n)
/-- a piece written -/
def R14 (W : World) (A G n : Nat) (cs : List UInt8) (a : Nat) : Exit → Act → World → Prop
  | .normal, _, w' => ∃ V : World, (W.drew.grownBy V (some G) ∧ Rw V G (fillL n cs)) ∧ w' = V.setCell ⟨A, 0, none⟩ (.int .i64 (a : Int))
  | _, _, _ => False
set_option maxRecDepth 100000 in
set_option maxHeartbeats 16000000 in
theorem apply63 {w : World} (T : ByteArray) (hT : T.size ≤ 500000) {l : List SpV} (hl : l.length ≤ 1000) (hsz : ∀ x ∈ piecesV T 0 l, x.size ≤ 1000000) (hfit : fits T.size l 0 = true) (n : Nat) (hn : (bytesV (piecesV T 0 l)).length = n) (hlen : n ≤ 65536) {p : Option Addr} {c : Nat} (hs : SplP w p l) :
    Calls Tryz.prog 63 #[.string T, .slice p l.length c] w fun e w' => e = .returned (.tuple #[.string ⟨(bytesV (piecesV T 0 l)).toArray⟩, .int .i64 0]) ∧ Below w.heap.size w w' := by
  have hchk : Calls Tryz.prog 58 #[.int .i64 (T.size : Int), .slice p l.length c] w fun e w' => e = .returned (.int .i64 0) ∧ Below w.heap.size w w' := by
    have := check58 (n := (T.size : Int)) (by omega) (c := c) hs (by omega)
    rw [if_pos hfit] at this
    exact this
  have hpb : ∀ a, p = some a → l ≠ [] → a.block < w.heap.size := fun a ha hne => by
    obtain ⟨s, r, rfl⟩ := List.exists_cons_of_ne_nil hne
    obtain ⟨b, hb, hsc⟩ := hs 0 s rfl
    obtain rfl : a = b := Option.some.inj (ha.symm.trans hb)
    have := hsc.blk
    rwa [add_blk] at this
  have hpt : (pcs T l hsz).length = 2 * l.length + 1 := pcs_length T l hsz
  have htt : tot (pcs T l hsz) = bytesV (piecesV T 0 l) := by unfold tot; rw [pcs_val]
  refine (callsIn_wide (n := 5)).1 ?_
  refine callsIn_of_wp_marks Tryz.func63 rfl trivial ?_ rfl
  simp only [Tryz.ntmps63, List.size_toArray, List.length_cons, List.length_nil, Nat.reduceAdd, Nat.reduceSub, Array.replicate_succ, Array.replicate_zero, List.push_toArray, List.append_toArray, List.nil_append, List.cons_append]
  gi_wp2_with (first
    | (refine ⟨trivial, ?_⟩; gi_at_call 58; refine (callsIn_wide.2 hchk).mono ?_; rintro e w1 ⟨rfl, hb1⟩)
    | (refine ⟨trivial, ?_⟩; gi_at_call 125; refine (callsIn_wide.2 (pieces_any _ _ _ _ _)).mono ?_; rintro e w' ⟨rfl, rfl⟩))
  obtain ⟨W0, hW0⟩ : ∃ W0, ((w1.alloc (.cells #[.int .i64 0] 3)).alloc (.cells #[.string T] 9)).alloc (.cells #[.slice p l.length c] 91) = W0 := ⟨_, rfl⟩
  have hB0 : Below w.heap.size w W0 := by
    rw [← hW0]
    exact ((hb1.alloc hb1.size _).alloc (by have := hb1.size; simp; omega) _).alloc (by have := hb1.size; simp; omega) _
  have b0 : Boxed W0 w1.heap.size 3 (.int .i64 0) := by rw [← hW0]; exact ((Bx.at 3 _ (by simp)).alloc _).alloc _
  have b1 : Boxed W0 (w1.heap.size + 1) 9 (.string T) := by rw [← hW0]; exact (Bx.at 9 _ (by simp)).alloc _
  have b2 : Boxed W0 (w1.heap.size + 2) 91 (.slice p l.length c) := by rw [← hW0]; exact Bx.at 91 _ (by simp)
  have hz0 : W0.heap.size = w1.heap.size + 3 := by rw [← hW0]; simp
  have hz1 := hb1.size
  rw [hW0]
  try rw [show w1.heap.size + 1 + 1 = w1.heap.size + 2 from rfl]
  clear hW0 hchk
  refine wpIn_rangeFunc_ownF rfl (by omega) (gf := 179) (lb := #[.pointer (some ⟨w1.heap.size + 2, 0, none⟩), .pointer (some ⟨w1.heap.size + 1, 0, none⟩)]) rfl trivial (enters_of Tryz.func179 (by kernel_rfl) rfl)
    (pieces_stops T hT l hl hsz hfit _ (w1.heap.size + 2) (w1.heap.size + 1) (by omega) (fun i => i = w1.heap.size) W0 b1 b2 (hs.below hB0) ⟨by omega, by omega, fun a ha hne e => by have := hpb a ha hne; omega, fun i hi => by omega⟩) KpM.trans (fun W l o o' _ hl ho _ => KpM.put W l o o' hl ho) (Below.refl _ _) (fun _ => rfl)
    (fun pre W => Boxed W w1.heap.size 3 (.int .i64 ((tot pre).length : Int)) ∧ Below w.heap.size w W)
    (fun _ _ _ => False)
    (OwnFrom.and (Own.from (I := fun (pre : List Pc) (W : World) => Boxed W w1.heap.size 3 (.int .i64 ((tot pre).length : Int))) (fun pre A B row hs hg hr => Bx.ok hs hg hr) _) (ownFrom_below (Nat.le_refl _) (by omega)))
    (fun c => Own.from (fun pre A B row hs hg hr => hs) _)
    ⟨b0, hB0⟩ ?a1 ?assign ?body ?done ?stop
  case assign =>
    intro k x W K hK
    gi_wp2
    exact hK
  case body =>
    rintro k pre x W ⟨h0, hB⟩ hlt
    have c0 := h0.cell; have f0 := h0.frozen
    have ht := tot_le pre
    have hx := x.2
    gi_wp2
    refine ⟨KeepsOthers.setCell _ _ _, KpM.set _ _ _ rfl, ?_, hB.setCell (p := ⟨w1.heap.size, 0, none⟩) hz1 _⟩
    rw [tot_add, List.length_append, ← Lib.size_eq]
    exact h0.set _
  case done =>
    rintro D ys W hD rfl ⟨h0, hB⟩ hKD0
    rw [htt, hn] at h0
    have c0 := h0.cell
    have hmk := made_bytes n (by omega) W
    have hDW := (Array.getElem?_eq_some_iff.1 hKD0).1
    have hzB := hB.size
    clear b0 b1 b2
    gi_wp2_with (first
      | (refine ⟨trivial, ?_⟩; gi_at_call 125; refine (callsIn_wide.2 (pieces_any _ _ _ _ _)).mono ?_; rintro e w' ⟨rfl, rfl⟩))
    obtain ⟨W2, hW2⟩ : ∃ W2, ((((W.alloc (.cells (Lib.byteCells (fillL n [])).toArray 5)).alloc (.cells #[.slice (some ⟨W.heap.size, 0, none⟩) n n] 189)).alloc (.cells #[.int .i64 0] 3)).alloc (.cells #[.string T] 9)).alloc (.cells #[.slice p l.length c] 91) = W2 := ⟨_, rfl⟩
    have hz2 : W2.heap.size = W.heap.size + 5 := by rw [← hW2]; simp
    have hBW2 : Below W.heap.size W W2 := by
      rw [← hW2]
      exact (((((Below.refl _ W).alloc (Nat.le_refl _) _).alloc (by simp) _).alloc (by simp; omega) _).alloc (by simp; omega) _).alloc (by simp; omega) _
    have hB2 : Below w.heap.size w W2 := Below.on hB hBW2
    have b0 : Rw W2 W.heap.size (fillL n []) := by rw [← hW2]; unfold Rw; rw [Below.heap_alloc _ _ _ (by simp; omega), Below.heap_alloc _ _ _ (by simp; omega), Below.heap_alloc _ _ _ (by simp; omega), Below.heap_alloc _ _ _ (by simp)]; exact World.alloc_heap_new W _
    have b1 : Boxed W2 (W.heap.size + 1) 189 (.slice (some ⟨W.heap.size, 0, none⟩) n n) := by rw [← hW2]; exact (((Bx.at 189 _ (by simp)).alloc _).alloc _).alloc _
    have b2 : Boxed W2 (W.heap.size + 2) 3 (.int .i64 0) := by rw [← hW2]; exact ((Bx.at 3 _ (by simp)).alloc _).alloc _
    have b3 : Boxed W2 (W.heap.size + 3) 9 (.string T) := by rw [← hW2]; exact (Bx.at 9 _ (by simp)).alloc _
    have b4 : Boxed W2 (W.heap.size + 4) 91 (.slice p l.length c) := by rw [← hW2]; exact Bx.at 91 _ (by simp)
    have hD2 : W2.heap[D]? = some (.deferred (some [])) := (hBW2.block D hDW).trans hKD0
    rw [hW2]
    try rw [show W.heap.size + 1 + 1 = W.heap.size + 2 from rfl]
    try rw [show W.heap.size + 2 + 1 = W.heap.size + 3 from rfl]
    try rw [show W.heap.size + 3 + 1 = W.heap.size + 4 from rfl]
    clear hW2 hmk c0
    refine wpIn_rangeFunc_ownF rfl (by omega) (gf := 179) (lb := #[.pointer (some ⟨W.heap.size + 4, 0, none⟩), .pointer (some ⟨W.heap.size + 3, 0, none⟩)]) rfl trivial (enters_of Tryz.func179 (by kernel_rfl) rfl)
      (pieces_stops T hT l hl hsz hfit _ (W.heap.size + 4) (W.heap.size + 3) (by omega) (fun i => i = W.heap.size ∨ i = W.heap.size + 2) W2 b3 b4 (hs.below hB2) ⟨by omega, by omega, fun a ha hne e => by have := hpb a ha hne; omega, fun i hi => by omega⟩) KpM.trans (fun W l o o' _ hl ho _ => KpM.put W l o o' hl ho) (Below.refl _ _) (fun _ => rfl)
      (fun pre X => (Boxed X (W.heap.size + 2) 3 (.int .i64 ((min n (tot pre).length : Nat) : Int)) ∧ Rw X W.heap.size (fillL n (tot pre)) ∧ Boxed X (W.heap.size + 1) 189 (.slice (some ⟨W.heap.size, 0, none⟩) n n)) ∧ (Below w.heap.size w X ∧ X.heap[D]? = some (.deferred (some []))))
      (fun _ _ _ => False)
      (OwnFrom.and (Own.from (I := fun (pre : List Pc) (X : World) => Boxed X (W.heap.size + 2) 3 (.int .i64 ((min n (tot pre).length : Nat) : Int)) ∧ Rw X W.heap.size (fillL n (tot pre)) ∧ Boxed X (W.heap.size + 1) 189 (.slice (some ⟨W.heap.size, 0, none⟩) n n)) (fun pre A B row hs hg hr => ⟨Bx.ok hs.1 hg hr, obj_ok hs.2.1 rfl hg hr, Bx.ok hs.2.2 hg hr⟩) _) (OwnFrom.and (ownFrom_below (Nat.le_refl _) (by omega)) (fun s A B row hs hg hr => (hg.block D (Array.getElem?_eq_some_iff.1 hs).1 (fun e => by have := (hr D e.symm).1; omega)).trans hs)))
      (fun c => Own.from (fun pre A B row hs hg hr => hs) _)
      ⟨⟨by simpa [tot, bytesV] using b2, b0, b1⟩, hB2, hD2⟩ ?a2 ?assign2 ?body2 ?done2 ?stop2
    case assign2 =>
      intro k x W K hK
      gi_wp2
      exact hK
    case body2 =>
      rintro k pre x X ⟨⟨h0, h1, h2⟩, hB, hKD⟩ hlt
      obtain ⟨a, ha⟩ : ∃ a, min n (tot pre).length = a := ⟨_, rfl⟩
      rw [ha] at h0
      have han : a ≤ n := by omega
      obtain ⟨o, cc, ho, hsl⟩ := run_behind W.heap.size n a han
      obtain ⟨k2, hk2⟩ : ∃ k, min x.1.size (n - a) = k := ⟨_, rfl⟩
      have h1d : Rw X.drew W.heap.size (fillL n (tot pre)) := h1
      obtain ⟨V, hrun, hV, hgV⟩ := run_piece (c := cc) h1d ha ho x.1 hk2
      have hmx : Tryz.prog.follows .mixedOrders = true := by kernel_rfl
      have hS0 : S14 (W.heap.size + 2) W.heap.size (W.heap.size + 1) n a X.drew := ⟨h0.cell, h2.cell⟩
      have hwr : IntKind.i64.wrap ((a : Int) + (k2 : Int)) = (a : Int) + (k2 : Int) := IntWalk.i64_in _ (by omega)
      have v0 : Boxed V (W.heap.size + 2) 3 (.int .i64 (a : Int)) := (hgV.block _ h0.lt (by simp)).trans h0
      have v2 : Boxed V (W.heap.size + 1) 189 (.slice (some ⟨W.heap.size, 0, none⟩) n n) := (hgV.block _ h2.lt (by simp)).trans h2
      have c0' := v0.cell
      have f0' := v0.frozen
      have c1' := v2.cell
      gi_wp2
      refine wpIn_mono (Q := R14 X (W.heap.size + 2) W.heap.size n (tot pre ++ x.1.data.toList) (a + k2)) ?_ ?_
      · skip
        refine region_round_late (S := S14 (W.heap.size + 2) W.heap.size (W.heap.size + 1) n a) 7 hmx (noDefer_of (by kernel_rfl)) (fun ⟨_, _, h⟩ => h) ?_
        refine wpAnyU_take (i := 0) (oi := { dst := some 35, op := Op.load 3 (Operand.tmp 10), type := 3, pos := "edits.go:66", after := #[], guard := none }) (v := ?_) [6, 7] rfl (by kernel_rfl) (by kernel_rfl) (by kernel_rfl) (by kernel_rfl) (fun _ _ _ h => h) (Or.inl ⟨by rfl, ?_⟩) (by assumption) ?_
        rotate_left
        · intro w hS; obtain ⟨hS0, hS1⟩ := hS; go_simp; with_reducible rfl
        try simp only [Act.put, List.setIfInBounds_toArray, List.set_cons_zero, List.set_cons_succ]
        refine wpAnyU_take (i := 1) (oi := { dst := some 36, op := Op.load 189 (Operand.tmp 9), type := 189, pos := "edits.go:66", after := #[], guard := none }) (v := ?_) [3, 5, 6, 7] rfl (by kernel_rfl) (by kernel_rfl) (by kernel_rfl) (by kernel_rfl) (fun _ _ _ h => h) (Or.inl ⟨by rfl, ?_⟩) (by assumption) ?_
        rotate_left
        · intro w hS; obtain ⟨hS0, hS1⟩ := hS; go_simp; with_reducible rfl
        try simp only [Act.put, List.setIfInBounds_toArray, List.set_cons_zero, List.set_cons_succ]
        refine wpAnyU_take (i := 2) (oi := { dst := some 37, op := Op.load 3 (Operand.tmp 10), type := 3, pos := "edits.go:66", after := #[], guard := none }) (v := ?_) [3, 5, 6, 7] rfl (by kernel_rfl) (by kernel_rfl) (by kernel_rfl) (by kernel_rfl) (fun _ _ _ h => h) (Or.inl ⟨by rfl, ?_⟩) (by assumption) ?_
        rotate_left
        · intro w hS; obtain ⟨hS0, hS1⟩ := hS; go_simp; with_reducible rfl
        try simp only [Act.put, List.setIfInBounds_toArray, List.set_cons_zero, List.set_cons_succ]
        refine wpAnyU_take (i := 3) (oi := { dst := some 38, op := Op.slice 189 (Operand.tmp 36) (some (Operand.tmp 37)) none none, type := 189, pos := "edits.go:66", after := #[{ on := 1, ground := Ground.data }, { on := 2, ground := Ground.data }], guard := none }) (v := ?_) [5, 6, 7] rfl (by kernel_rfl) (by kernel_rfl) (by kernel_rfl) (by kernel_rfl) (fun _ _ _ h => h) (Or.inl ⟨by rfl, ?_⟩) (by assumption) ?_
        rotate_left
        · intro w hS; obtain ⟨hS0, hS1⟩ := hS; have hslw := hsl w; go_simp; with_reducible rfl
        try simp only [Act.put, List.setIfInBounds_toArray, List.set_cons_zero, List.set_cons_succ]
        refine wpAnyU_take (i := 4) (oi := { dst := some 39, op := Op.move (Operand.tmp 11), type := 9, pos := "edits.go:66", after := #[], guard := none }) (v := ?_) [5, 6, 7] rfl (by kernel_rfl) (by kernel_rfl) (by kernel_rfl) (by kernel_rfl) (fun _ _ _ h => h) (Or.inl ⟨by rfl, ?_⟩) (by assumption) ?_
        rotate_left
        · intro w hS; obtain ⟨hS0, hS1⟩ := hS; go_simp; with_reducible rfl
        try simp only [Act.put, List.setIfInBounds_toArray, List.set_cons_zero, List.set_cons_succ]
        refine wpAnyU_ready (rs := [5]) (by kernel_rfl) (by simp) (AllReadyU.cons (o := { dst := some 40, op := Op.call { callee := Callee.builtin Builtin.copy, args := #[Operand.tmp 38, Operand.tmp 39], argTypes := #[189, 9] }, type := 3, pos := "edits.go:66", after := #[{ on := 3, ground := Ground.data }, { on := 4, ground := Ground.data }], guard := none }) rfl (fun K hK => ?_) AllReadyU.nil)
        rw [if_pos (by rfl)]
        refine wp_copy_at (.tmp 38) (.tmp 39) rfl rfl rfl rfl hrun ?_
        refine hK.out _ _ (fun _ => ⟨c0', c1'⟩) (fun hS2 => ?_)
        replace hS2 := hS2 (by decide)
        clear hK K
        try simp only [Act.put, List.setIfInBounds_toArray, List.set_cons_zero, List.set_cons_succ]
        refine wpAnyU_pure (i := 6) (oi := { dst := some 41, op := Op.binOp BinOp.add 3 (Operand.tmp 35) (Operand.tmp 40) 3, type := 3, pos := "edits.go:66", after := #[{ on := 0, ground := Ground.data }, { on := 5, ground := Ground.data }], guard := none }) (v := ?_) rfl (by kernel_rfl) (by kernel_rfl) (by kernel_rfl) (by kernel_rfl) (fun _ _ _ h => h) (Or.inl ⟨by rfl, ?_⟩) (fun _ => by assumption) ?_
        rotate_left
        · intro w _; go_simp; with_reducible rfl
        try simp only [Act.put, List.setIfInBounds_toArray, List.set_cons_zero, List.set_cons_succ]
        refine wpAnyU_ready (rs := [7]) (by kernel_rfl) (by simp) (AllReadyU.cons (o := { dst := none, op := Op.store 3 (Operand.tmp 10) (Operand.tmp 41), type := 0, pos := "edits.go:66", after := #[{ on := 6, ground := Ground.data }, { on := 5, ground := Ground.chain }, { on := 0, ground := Ground.phase }, { on := 1, ground := Ground.phase }, { on := 2, ground := Ground.phase }, { on := 3, ground := Ground.phase }, { on := 4, ground := Ground.phase }, { on := 5, ground := Ground.phase }, { on := 6, ground := Ground.phase }], guard := none }) rfl (fun K hK => ?_) AllReadyU.nil)
        rw [if_pos (by rfl)]
        go_simp
        refine hK.out _ _ (fun h => absurd h (by decide)) (fun _ => ?_)
        clear hK K
        try simp only [Act.put, List.setIfInBounds_toArray, List.set_cons_zero, List.set_cons_succ]
        refine wpAnyU_done (by kernel_rfl) ?_ _
        exact ⟨V, ⟨hgV, hV⟩, rfl⟩
      · rintro e a' w' hR
        cases e with
        | normal =>
          obtain ⟨V, ⟨hg0, hV⟩, rfl⟩ := hR
          have hg : X.grownBy V (some W.heap.size) := ⟨hg0.os, hg0.tape, hg0.output, hg0.size, hg0.block⟩
          have v0 : Boxed V (W.heap.size + 2) 3 (.int .i64 (a : Int)) := (hg.block _ h0.lt (by simp)).trans h0
          have v2 : Boxed V (W.heap.size + 1) 189 (.slice (some ⟨W.heap.size, 0, none⟩) n n) := (hg.block _ h2.lt (by simp)).trans h2
          have hkc : KeepsOthers X V := KeepsOthers.of_grownBy hg (fun j o e ho => by cases e; rw [show X.heap[W.heap.size]? = _ from h1] at ho; cases ho; rfl)
          have hBV : Below w.heap.size w V := hB.grown hg hB.size (fun q hq => by cases hq; omega)
          have hDV : V.heap[D]? = some (.deferred (some [])) := (hg.block D (Array.getElem?_eq_some_iff.1 hKD).1 (fun e => by cases e; omega)).trans hKD
          refine ⟨hkc.trans (KeepsOthers.setCell _ _ _), (KpM.grown hg (.inl rfl)).trans (KpM.set _ _ _ (.inr rfl)), ⟨?_, ?_, v2.other (by omega) _⟩, hBV.setCell (p := ⟨W.heap.size + 2, 0, none⟩) (by simp; omega) _, (Below.heap_setCell _ _ _ D (by simp; omega)).trans hDV⟩
          · have e : min n (tot (pre ++ [x])).length = a + k2 := by rw [tot_add, List.length_append, ← Lib.size_eq]; omega
            rw [e]
            exact v0.set _
          · unfold Rw
            rw [Below.heap_setCell _ _ _ _ (by simp), tot_add]
            exact hV
        | _ => exact hR.elim
    case done2 =>
      rintro D2 ys X hD2 rfl ⟨⟨h0, h1, h2⟩, hB, hKD⟩ hK2
      rw [htt] at h0 h1
      rw [fillL_all hn] at h1
      have c2 := h2.cell
      have hcv := read_bytes h1 hn
      have hne : D ≠ D2 := by omega
      have hK3 : (X.putObj D2 (.deferred none)).heap[D]? = some (.deferred (some [])) := ((grownBy_putObj' X D2 (.deferred none)).block D (Array.getElem?_eq_some_iff.1 hKD).1 (fun e => hne (Option.some.inj e))).trans hKD
      gi_wp2
      refine ⟨by simp, .inl ⟨_, _, rfl, run_takeDeferred hK2, ⟨by simp, .inl ⟨_, _, rfl, run_takeDeferred hK3, ?_⟩⟩⟩⟩
      refine ⟨_, ?_, rfl, (hB.trans (belowK_b (w := w) (Nat.le_refl _) X D2 _ _ (by omega) hK2 rfl rfl)).trans (belowK_b (w := w) (Nat.le_refl _) _ D _ _ (by omega) hK3 rfl rfl)⟩
      simp [results, Tryz.f63, go_sem]
    case stop2 =>
      rintro D c pre W hD hpre h hK
      exact h.elim
  case stop =>
    rintro D c pre W hD hpre h hK
    exact h.elim
end Go.Proofs.Ls
