/- Values of JSON in memory: clone. -/
import Derived.Test.YtaiaiiepbpbmmaaGreatDoorCmVW
import Derived.Laws.OwnMore
namespace Go.Proofs.Jt
open Go.RowKit Go.Maps Go.Lib Go.Proofs.Utf Go.Proofs

theorem KP.head {w : World} {P : Nat → Prop} {k k' : Int} {s s' : List UInt8} {ks : List (List UInt8)} {it : List JV} {kp ip : Option Addr} {kc ic : Nat} (h : KP w P (.mk k s ks it) kp kc ip ic) : KP w P (.mk k' s' ks it) kp kc ip ic := by
 cases h with
 | mk _ _ _ _ _ fp fc gp gc hk hkP hz hi hiP hh => exact .mk _ kp kc ip ic fp fc gp gc hk hkP hz hi hiP hh
/-- a value that is copied: its box and its rows -/
structure CV (w : World) (B vb : Nat) (k : Int) (S : ByteArray) (ks : List (List UInt8)) (L : List IC) (kv iv : Value) : Prop where
 hd : w.heap[vb]? = some (.cells #[.int .i64 k, .string S, kv, iv] 25 (0, 0))
 rk : w.ownsRow B 9 1 kv ks.length (strC ks)
 ri : w.ownsRow B 25 4 iv L.length (rowC L)
 nk : kv.ownBlock ≠ some vb
 ni : iv.ownBlock ≠ some vb
 vB : B ≤ vb
 ch : ∀ c ∈ L, KP w (fun b => B ≤ b ∧ b ≠ vb ∧ some b ≠ iv.ownBlock ∧ some b ≠ kv.ownBlock) c.y c.kp c.kc c.ip c.ic ∧ c.y.str.length ≤ maxLen
theorem CV.below {w w' : World} {B vb : Nat} {k : Int} {S : ByteArray} {ks : List (List UInt8)} {L : List IC} {kv iv : Value} (h : CV w B vb k S ks L kv iv) (hb : Below w.heap.size w w') : CV w' B vb k S ks L kv iv := by
 have F : FrP (fun _ => False) w w' := FrP.of_none (gb_below' hb)
 exact ⟨(hb.block vb (ltS h.hd)).trans h.hd, row_fr h.rk F (fun _ _ => id), row_fr h.ri F (fun _ _ => id), h.nk, h.ni, h.vB, fun c hc => ⟨(h.ch c hc).1.fr F (fun _ _ => id), (h.ch c hc).2⟩⟩
theorem CV.add {w w5 w6 w61 w7 : World} {B vb : Nat} {k : Int} {S : ByteArray} {ks : List (List UInt8)} {L : List IC} {kv iv iv2 : Value} {c : IC}
 (h : CV w B vb k S ks L kv iv) (g5 : w.grownBy w5 none) (g6 : w5.grownBy w6 none) (g61 : w6.grownBy w61 none) (hgi : w61.grownBy w7 iv.ownBlock) (hat2 : iv2.ownBlock = iv.ownBlock ∨ iv2.ownBlock = some w61.heap.size)
 (hr7 : w7.ownsRow B 25 4 iv2 (L.length + 1) (rowC L ++ c.cells)) (hc : KP w6 (w5.heap.size ≤ ·) c.y c.kp c.kc c.ip c.ic ∧ c.y.str.length ≤ maxLen) :
 CV (w7.setCell ⟨vb, 3, none⟩ iv2) B vb k S ks (L ++ [c]) kv iv2 ∧ FrP (fun b => b = vb ∨ iv.ownBlock = some b) w (w7.setCell ⟨vb, 3, none⟩ iv2) := by
 have s5 := g5.size
 have s6 := g6.size
 have s61 := g61.size
 have s7 := hgi.size
 have hvl := (ltS h.hd)
 have hvB := h.vB
 have hkl : ∀ b, kv.ownBlock = some b → B ≤ b ∧ b < w.heap.size := fun b hb => row_lt h.rk hb
 have hil : ∀ b, iv.ownBlock = some b → B ≤ b ∧ b < w.heap.size := fun b hb => row_lt h.ri hb
 have F7 : FrP (fun b => iv.ownBlock = some b) w w7 := (FrP.of_none g5).trans ((FrP.of_none g6).trans ((FrP.of_none g61).trans (FrP.of_row hgi fun k hk => hk)))
 have F67 : FrP (fun b => iv.ownBlock = some b) w6 w7 := (FrP.of_none g61).trans (FrP.of_row hgi fun k hk => hk)
 have F9 : FrP (fun b => b = vb) w7 (w7.setCell ⟨vb, 3, none⟩ iv2) := FrP.of (gb_set w7 vb 3 iv2) rfl
 have FT : FrP (fun b => b = vb ∨ iv.ownBlock = some b) w (w7.setCell ⟨vb, 3, none⟩ iv2) := (F7.mono fun _ _ h => .inr h).trans (F9.mono fun _ _ h => .inl h)
 have FT6 : FrP (fun b => b = vb ∨ iv.ownBlock = some b) w6 (w7.setCell ⟨vb, 3, none⟩ iv2) := (F67.mono fun _ _ h => .inr h).trans (F9.mono fun _ _ h => .inl h)
 have hi2b : ∀ b, b < w61.heap.size → some b ≠ iv.ownBlock → some b ≠ iv2.ownBlock := fun b hb hi e => by
  rcases hat2 with e2 | e2
  · exact hi (e.trans e2)
  · rw [e2] at e; have := Option.some.inj e; omega
 have hd7 : w7.heap[vb]? = some (.cells #[.int .i64 k, .string S, kv, iv] 25 (0, 0)) := (F7.block vb hvl h.ni).trans h.hd
 have hni2 : iv2.ownBlock ≠ some vb := fun e => hi2b vb (by omega) (fun e => h.ni e.symm) e.symm
 refine ⟨⟨heap_setCell_self hd7 3 iv2, ?_, ?_, h.nk, hni2, hvB, fun d hd => ?_⟩, FT⟩
 · refine row_fr h.rk FT fun b hb e => ?_
   rcases e with rfl | e
   · exact h.nk hb
   · exact LV.apart h.rk h.ri b hb e
 · rw [rowC_snoc, List.length_append]
   exact row_fr hr7 F9 fun b hb e => hni2 (by rw [← e]; exact hb)
 · rcases List.mem_append.1 hd with hd | hd
   · obtain ⟨h1, h2⟩ := h.ch d hd
     refine ⟨h1.keep FT.size (fun b hb hl => FT.block b hl (fun e => ?_)) fun b hb hl => ⟨hb.1, hb.2.1, hi2b b (by omega) hb.2.2.1, hb.2.2.2⟩, h2⟩
     rcases e with e | e
     · exact hb.2.1 e
     · exact hb.2.2.1 e.symm
   · obtain rfl := List.mem_singleton.1 hd
     have hiw : ∀ b, w5.heap.size ≤ b → some b ≠ iv.ownBlock := fun b hb e => by have := (hil b e.symm).2; omega
     refine ⟨hc.1.keep FT6.size (fun b hb hl => FT6.block b hl (fun e => ?_)) fun b hb hl => ⟨by omega, by omega, hi2b b (by omega) (hiw b hb), fun e => by have := (hkl b e.symm).2; omega⟩, hc.2⟩
     rcases e with e | e
     · omega
     · exact hiw b hb e.symm
theorem CV.made {w : World} {B vb : Nat} {k : Int} {s : List UInt8} {S : ByteArray} {ks : List (List UInt8)} {L : List IC} {kv iv : Value} (h : CV w B vb k S ks L kv iv) (hz : L.length ≤ maxLen ∧ ks.length ≤ maxLen ∧ ∀ s ∈ ks, s.length ≤ maxLen) :
 ∃ kp kc ip ic, kv = .slice kp ks.length kc ∧ iv = .slice ip L.length ic ∧ KP w (B ≤ ·) (.mk k s ks (L.map (·.y))) kp kc ip ic := by
 obtain ⟨kp, kc, ip, ic, h1, h2, h3⟩ := KP.build (k := k) h.rk h.ri (fun c hc => ⟨(h.ch c hc).1.keep (Nat.le_refl _) (fun _ _ _ => rfl) fun b hb _ => ⟨hb.1, hb.2.2.1⟩, (h.ch c hc).2⟩) hz
 exact ⟨kp, kc, ip, ic, h1, h2, h3.head⟩
/-- a copy of keys -/
theorem keys_append {w : World} {kp : Option Addr} {kc B : Nat} {ks : List (List UInt8)} (hk : StrsP w kp ks) (hl : ks.length ≤ 1000000) (hB : B ≤ w.heap.size) :
 ∃ kv w2, (Builtin.append_ #[22, 22] 22 #[.slice none 0 0, .slice kp ks.length kc]).run Tryz.prog w = .ok kv w2 ∧ w2.ownsRow B 9 1 kv ks.length (strC ks) ∧ w.grownBy w2 none ∧ (∀ b, kv.ownBlock = some b → w.heap.size ≤ b) := by
 obtain ⟨i9, hi9, hz0, hz1, hz2⟩ := info_parts info9
 have hown : w.ownsRow w.heap.size 9 1 (.slice none 0 0) 0 [] := ⟨rfl, .inl ⟨rfl, rfl⟩⟩
 cases kp with
 | none =>
  have e0 : ks = [] := by
   cases ks with
   | nil => rfl
   | cons u t =>
    obtain ⟨a, e, _⟩ := hk 0 u rfl
    cases e
  subst e0
  refine ⟨.slice none 0 0, w, ?_, ⟨rfl, .inl ⟨rfl, rfl⟩⟩, World.grownBy.refl w none, fun b hb => by cases hb⟩
  simp [Builtin.append_, run_underlying Tryz.underlying22, sizeOf, typeInfo, hi9, Builtin.lenOf, Builtin.firstCells]
 | some a =>
  obtain ⟨v', w', hr, h2, h3, h4⟩ := run_append_own (P := Tryz.prog) w w.heap.size 22 22 9 i9 _ 1 16 Tryz.underlying22 hi9 hz0 hz1 hz2 rfl (by decide) (.slice none 0 0) 0 [] hown a ks.length kc (strC ks) (by simp [strC]) (fun j x hx => by
   unfold strC at hx
   rw [List.getElem?_map] at hx
   obtain ⟨s, hs, rfl⟩ := Option.map_eq_some_iff.1 hx
   obtain ⟨a', e, hc, _⟩ := hk j s hs
   cases e
   exact hc) (fun x hx => by
   unfold strC at hx
   obtain ⟨s, _, rfl⟩ := List.mem_map.1 hx
   rfl) (by unfold maxLen; omega) (by omega) (Nat.le_refl _)
  rw [Nat.zero_add, List.nil_append] at h2
  refine ⟨v', w', hr, ⟨h2.1, ?_⟩, h3, fun b hb => (row_lt h2 hb).1⟩
  rcases h2.2 with e | ⟨g, cap, cur, e1, e2, e3⟩
  · exact .inl e
  · exact .inr ⟨g, cap, cur, e1, by omega, e3⟩
/-- what clone leaves -/
def CL (w : World) (x : JV) (e : Ending) (w' : World) : Prop := ∃ kp kc ip ic, e = .returned (jval x kp kc ip ic) ∧ KP w' (w.heap.size ≤ ·) x kp kc ip ic ∧ Below w.heap.size w w'
theorem box_at {w W : World} {x : JV} {S : ByteArray} {kp ip : Option Addr} {kc ic : Nat} (hS : (⟨x.str.toArray⟩ : ByteArray) = S) (hW : w.alloc (.cells #[.int .i64 x.kind, .string S, .slice kp x.keys.length kc, .slice ip x.items.length ic] 25) = W) : ∀ W', Below W.heap.size W W' → W'.cell? ⟨w.heap.size, 0, none⟩ = some (.int .i64 x.kind) ∧ W'.cell? ⟨w.heap.size, 1, none⟩ = some (.string S) ∧ W'.cell? ⟨w.heap.size, 2, none⟩ = some (.slice kp x.keys.length kc) ∧ W'.cell? ⟨w.heap.size, 3, none⟩ = some (.slice ip x.items.length ic) := fun W' hb => by
 subst hS
 exact box_cells hW W' hb
theorem there4 {w : World} {g : Nat} {a b c d : Value} (h : w.heap[g]? = some (.cells #[a, b, c, d] 25 (0, 0))) : w.there g 0 4 := fun j hj => by
 match j, hj with
 | 0, _ => simp [World.cell?, World.frozen?, h]
 | 1, _ => simp [World.cell?, World.frozen?, h]
 | 2, _ => simp [World.cell?, World.frozen?, h]
 | 3, _ => simp [World.cell?, World.frozen?, h]
theorem setCells_all {w : World} {g : Nat} {a b c d v0 v1 v2 v3 : Value} (h : w.heap[g]? = some (.cells #[a, b, c, d] 25 (0, 0))) : (w.setCells g 0 [v0, v1, v2, v3]).heap[g]? = some (.cells #[v0, v1, v2, v3] 25 (0, 0)) ∧ w.grownBy (w.setCells g 0 [v0, v1, v2, v3]) (some g) := by
 rw [setCells4]
 refine ⟨?_, (gb_set _ _ _ _).trans ((gb_set _ _ _ _).trans ((gb_set _ _ _ _).trans (gb_set _ _ _ _)))⟩
 have h1 := heap_setCell_self h 0 v0
 have h2 := heap_setCell_self h1 1 v1
 have h3 := heap_setCell_self h2 2 v2
 exact heap_setCell_self h3 3 v3
theorem cv_first {W V : World} {ob B : Nat} {k : Int} {S : ByteArray} {ks : List (List UInt8)} {kv : Value} (h : V.heap[ob]? = some (.cells #[.int .i64 k, .string S, kv, .slice none 0 0] 25 (0, 0))) (hr : V.ownsRow B 9 1 kv ks.length (strC ks)) (hn : kv.ownBlock ≠ some ob) (hB : B ≤ ob) (_hW : B = W.heap.size) : CV V B ob k S ks [] kv (.slice none 0 0) :=
 ⟨h, hr, ⟨rfl, .inl ⟨rfl, rfl⟩⟩, hn, by simp [Value.ownBlock], hB, fun c hc => by cases hc⟩
theorem wp_append_run {o : Oper} {a : Act} {w : World} {K : Act → World → Prop} {Q : Exit → Act → World → Prop} (s x : Operand) (ho : o.op = .call { callee := .builtin .append, args := #[s, x], argTypes := #[22, 22] }) (hty : o.type = 22)
 (v0 vx : Value) (hs : a.eval s = v0) (hx : a.eval x = vx) {v' : Value} {w' : World} (hr : (Builtin.append_ #[22, 22] 22 #[v0, vx]).run Tryz.prog w = .ok v' w') (h : K (a.put o.dst v') w') : o.wp Tryz.prog a w K Q := by
 unfold Oper.wp execOp
 simp only [ho, hty, resolve, invoke, builtin, Sem.run_bind, Sem.run_pure, Result.andThen_ok, List.map_toArray, List.map_cons, List.map_nil, hs, hx, hr]
 exact h
theorem CL.cells {w w' : World} {y : JV} {Y : ByteArray} {e : Ending} (hY : (⟨y.str.toArray⟩ : ByteArray) = Y) (h : CL w y e w') : ∃ kp kc ip ic, e = .returned (.agg #[.int .i64 y.kind, .string Y, .slice kp y.keys.length kc, .slice ip y.items.length ic]) ∧ KP w' (w.heap.size ≤ ·) y kp kc ip ic ∧ Below w.heap.size w w' := by
 obtain ⟨kp, kc, ip, ic, h1, h2, h3⟩ := h
 exact ⟨kp, kc, ip, ic, by rw [h1, ← hY]; rfl, h2, h3⟩
theorem below_fr {B : Nat} {W w w' : World} {P : Nat → Prop} (h : Below B W w) (hB : B ≤ W.heap.size) (F : FrP P w w') (hP : ∀ k, P k → B ≤ k) : Below B W w' :=
 ⟨F.os.trans h.os, F.tape.trans h.tape, F.output.trans h.output, Nat.le_trans h.size F.size, fun k hk => (F.block k (Nat.lt_of_lt_of_le hk (Nat.le_trans hB h.size)) (fun hp => by have := hP k hp; omega)).trans (h.block k hk)⟩
theorem clone_end {w' W wr V : World} {z ob : Nat} {k : Int} {s : List UInt8} {S : ByteArray} {ks : List (List UInt8)} {it : List JV} {L : List IC} {pv pi : Option Addr} {cv ci : Nat} (hCV : CV wr W.heap.size ob k S ks L (.slice pv ks.length cv) (.slice pi L.length ci)) (hL : L.map (·.y) = it) (hS : (⟨s.toArray⟩ : ByteArray) = S)
 (hz : it.length ≤ maxLen ∧ ks.length ≤ maxLen ∧ ∀ s ∈ ks, s.length ≤ maxLen) (bW : Below w'.heap.size w' W) (hB : Below W.heap.size W wr) (hzl : z < W.heap.size) (hz0 : w'.heap.size ≤ z) (hg : wr.grownBy V (some z)) :
 CL w' (.mk k s ks it) (.returned (.agg #[.int .i64 k, .string S, .slice pv ks.length cv, .slice pi L.length ci])) V := by
 have hlen : L.length = it.length := by rw [← hL, List.length_map]
 obtain ⟨kp, kc, ip, ic, h1, h2, h3⟩ := hCV.made (s := s) (by rw [hlen]; exact hz)
 rw [hL] at h3
 have F : FrP (fun b => b = z) wr V := FrP.of hg rfl
 have hBV := below_fr (bW.trans (hB.mono bW.size)) (Nat.le_refl _) F (fun b hb => by omega)
 refine ⟨pv, cv, pi, ci, ?_, ?_, hBV⟩
 · unfold jval
   rw [kind_mk, str_mk, keys_mk, items_mk, hS, hlen]
 · cases h1
   cases h2
   have := bW.size
   exact (h3.fr F fun b hb e => by omega).keep (Nat.le_refl _) (fun _ _ _ => rfl) fun b hb _ => by omega
set_option maxRecDepth 100000 in
set_option maxHeartbeats 8000000 in
theorem clone_any {w : World} {x : JV} {kp ip : Option Addr} {kc ic : Nat} (h : KI w x kp kc ip ic) : x.wt ≤ 1000000 → x.str.length ≤ maxLen → ∀ w', Below w.heap.size w w' → Calls Tryz.prog 85 #[jval x kp kc ip ic] w' (CL w' x) := by
 induction h with
 | mk x kp kc ip ic fp fc gp gc hk hz hi hh ih =>
  intro hwt hsl w' hb
  have hsm := hz
  cases x with
  | mk k s ks it =>
  simp only [str_mk, keys_mk, items_mk] at *
  obtain ⟨S, hS⟩ : ∃ S : ByteArray, (⟨s.toArray⟩ : ByteArray) = S := ⟨_, rfl⟩
  obtain ⟨W1, hW1⟩ : ∃ W, w'.alloc (.cells #[.int .i64 k, .string S, .slice kp ks.length kc, .slice ip it.length ic] 25) = W := ⟨_, rfl⟩
  obtain ⟨W, hW⟩ : ∃ W, W1.alloc (.cells #[.int .i64 0, .string ⟨#[]⟩, .slice none 0 0, .slice none 0 0] 25) = W := ⟨_, rfl⟩
  have bW1 : Below w'.heap.size w' W1 := by rw [← hW1]; exact (Below.refl _ _).alloc (Nat.le_refl _) _
  have bW2 : Below W1.heap.size W1 W := by rw [← hW]; exact (Below.refl _ _).alloc (Nat.le_refl _) _
  have bW : Below w'.heap.size w' W := bW1.trans (bW2.mono bW1.size)
  have hz1 : W1.heap.size = w'.heap.size + 1 := by rw [← hW1]; simp
  have hz2 : W.heap.size = w'.heap.size + 2 := by rw [← hW]; simp; omega
  have hbx0 := box_at (x := .mk k s ks it) hS hW1
  simp only [kind_mk, keys_mk, items_mk] at hbx0
  have hbx : ∀ V, Below W.heap.size W V → _ := fun V hV => hbx0 V (bW2.trans (hV.mono bW2.size))
  have hjz : JBox W (w'.heap.size + 1) := by rw [← hW, ← hz1]; exact JBox.alloc _ _ _ _ _
  have hkn : ks.length ≤ 1000000 := by have := keys_len ks; rw [JV.wt] at hwt; omega
  have hin0 : it.length ≤ 1000000 := by have := items_len it; rw [JV.wt] at hwt; omega
  have HWT : Hid (∀ (i : Nat) (y : JV), it[i]? = some y → y.wt ≤ 1000000) := Lib.hid fun i y hy => by have := wt_item hy; rw [JV.wt] at hwt; omega
  have HB : Hid (∀ W', Below W.heap.size W W' → Below w.heap.size w W') := Lib.hid fun W' hb' => hb.trans ((bW.trans (hb'.mono bW.size)).mono hb.size)
  have HBX : Hid (∀ V, Below W.heap.size W V → _) := Lib.hid hbx
  have HBW := Lib.hid bW
  have HI := Lib.hid hi
  have HIH := Lib.hid ih
  have HK := Lib.hid hk
  have HSM := Lib.hid hsm
  have HJZ := Lib.hid hjz
  have HAP : Hid (∀ V, Below W.heap.size W V → ∃ kv w2, (Builtin.append_ #[22, 22] 22 #[.slice none 0 0, .slice kp ks.length kc]).run Tryz.prog V = .ok kv w2 ∧ w2.ownsRow W.heap.size 9 1 kv ks.length (strC ks) ∧ V.grownBy w2 none ∧ (∀ b, kv.ownBlock = some b → V.heap.size ≤ b)) := Lib.hid fun V hV => keys_append (hk.below (HB.out V hV)) hkn hV.size
  have HZ2 := Lib.hid hz2
  subst hW1
  obtain ⟨c0, c1, c2, c3⟩ := hbx W (Below.refl _ _)
  unfold jval
  simp only [kind_mk, str_mk, keys_mk, items_mk]
  rw [hS]
  have HSS := Lib.hid hS
  clear hi ih hh hk hz hsm hbx hbx0 bW1 bW2 bW hb hz1 hwt hsl hjz hS hz2
  go_enter Tryz.func85, Tryz.ntmps85
  go_upto_region 1 with fail
  have HS1 := Lib.hid (fun V (hV : Below W.heap.size W V) => (show V.cell? ⟨w'.heap.size, 0, none⟩ = some (.int .i64 k) ∧ V.cell? ⟨w'.heap.size, 1, none⟩ = some (.string S) ∧ V.cell? ⟨w'.heap.size, 2, none⟩ = some (.slice kp ks.length kc) from ⟨(HBX.out V hV).1, (HBX.out V hV).2.1, (HBX.out V hV).2.2.1⟩))
  refine wp_region_late (S := fun v => v.cell? ⟨w'.heap.size, 0, none⟩ = some (.int .i64 k) ∧ v.cell? ⟨w'.heap.size, 1, none⟩ = some (.string S) ∧ v.cell? ⟨w'.heap.size, 2, none⟩ = some (.slice kp ks.length kc)) 9 (by kernel_rfl) (HS1.out _ (Below.refl _ _).drew) (fun hHeld => ?_)
  refine wpAnyU_take (i := 0) (oi := { dst := some 6, op := Op.fieldAddr 25 (Operand.tmp 1) 0, type := 0, pos := "json.go:265", after := #[], guard := none }) (v := ?_) [1, 7, 9] rfl (by kernel_rfl) (by kernel_rfl) (by kernel_rfl) (by kernel_rfl) (fun _ _ _ h => h) (Or.inl ⟨by rfl, ?_⟩) (by assumption) ?_
  rotate_left
  · intro w hS; obtain ⟨hS0, hS1, hS2⟩ := hS; go_simp; with_reducible rfl
  try simp only [Act.put, aSA, aSZ, aSS]
  refine wpAnyU_take (i := 1) (oi := { dst := some 7, op := Op.load 3 (Operand.tmp 6), type := 3, pos := "json.go:265", after := #[eDa 0], guard := none }) (v := ?_) [7, 9] rfl (by kernel_rfl) (by kernel_rfl) (by kernel_rfl) (by kernel_rfl) (fun _ _ _ h => h) (Or.inl ⟨by rfl, ?_⟩) (by assumption) ?_
  rotate_left
  · intro w hS; obtain ⟨hS0, hS1, hS2⟩ := hS; go_simp; with_reducible rfl
  try simp only [Act.put, aSA, aSZ, aSS]
  refine wpAnyU_take (i := 2) (oi := { dst := some 8, op := Op.fieldAddr 25 (Operand.tmp 1) 1, type := 0, pos := "json.go:265", after := #[], guard := none }) (v := ?_) [3, 7, 9] rfl (by kernel_rfl) (by kernel_rfl) (by kernel_rfl) (by kernel_rfl) (fun _ _ _ h => h) (Or.inl ⟨by rfl, ?_⟩) (by assumption) ?_
  rotate_left
  · intro w hS; obtain ⟨hS0, hS1, hS2⟩ := hS; go_simp; with_reducible rfl
  try simp only [Act.put, aSA, aSZ, aSS]
  refine wpAnyU_take (i := 3) (oi := { dst := some 9, op := Op.load 9 (Operand.tmp 8), type := 9, pos := "json.go:265", after := #[eDa 2], guard := none }) (v := ?_) [7, 9] rfl (by kernel_rfl) (by kernel_rfl) (by kernel_rfl) (by kernel_rfl) (fun _ _ _ h => h) (Or.inl ⟨by rfl, ?_⟩) (by assumption) ?_
  rotate_left
  · intro w hS; obtain ⟨hS0, hS1, hS2⟩ := hS; go_simp; with_reducible rfl
  try simp only [Act.put, aSA, aSZ, aSS]
  refine wpAnyU_take (i := 4) (oi := { dst := some 10, op := Op.fieldAddr 25 (Operand.tmp 1) 2, type := 0, pos := "json.go:265", after := #[], guard := none }) (v := ?_) [5, 6, 7, 9] rfl (by kernel_rfl) (by kernel_rfl) (by kernel_rfl) (by kernel_rfl) (fun _ _ _ h => h) (Or.inl ⟨by rfl, ?_⟩) (by assumption) ?_
  rotate_left
  · intro w hS; obtain ⟨hS0, hS1, hS2⟩ := hS; go_simp; with_reducible rfl
  try simp only [Act.put, aSA, aSZ, aSS]
  refine wpAnyU_take (i := 5) (oi := { dst := some 11, op := Op.load 22 (Operand.tmp 10), type := 22, pos := "json.go:265", after := #[eDa 4], guard := none }) (v := ?_) [6, 7, 9] rfl (by kernel_rfl) (by kernel_rfl) (by kernel_rfl) (by kernel_rfl) (fun _ _ _ h => h) (Or.inl ⟨by rfl, ?_⟩) (by assumption) ?_
  rotate_left
  · intro w hS; obtain ⟨hS0, hS1, hS2⟩ := hS; go_simp; with_reducible rfl
  try simp only [Act.put, aSA, aSZ, aSS]
  refine wpAnyU_ready (rs := [6, 8]) (by kernel_rfl) (by simp) (AllReadyU.cons (o := { dst := some 12, op := Op.call { callee := Callee.builtin Builtin.append, args := #[Operand.const (Value.slice none 0 0), Operand.tmp 11], argTypes := #[22, 22] }, type := 22, pos := "json.go:265", after := #[eDa 5], guard := none }) rfl (fun K hK => ?_) (AllReadyU.cons (o := { dst := some 3, op := Op.alloc 25, type := 0, pos := "json.go:265", after := #[], guard := none }) rfl (fun K hK => ?_) AllReadyU.nil))
  · rw [if_pos (by rfl)]
    obtain ⟨kv, w2, hrun, hrow, hg2, hkb⟩ := HAP.out W.drew (Below.refl _ _).drew; obtain ⟨pv, cv, rfl⟩ := row_form hrow; refine wp_append_run (.const (.slice none 0 0)) (.tmp 11) rfl rfl _ _ rfl rfl hrun ?_; have hB2 : Below W.heap.size W w2 := below_fr (Below.refl _ _).drew (Nat.le_refl _) (FrP.of_none (P := fun _ => False) hg2) (fun _ => False.elim)
    refine hK.out _ _ (fun _ => HS1.out _ hB2) (fun hS2 => ?_)
    replace hS2 := hS2 (by decide)
    clear hK K
    try simp only [Act.put, aSA, aSZ, aSS]
    refine wpAnyU_pure (i := 7) (oi := { dst := some 13, op := Op.build 25 #[(0, Operand.tmp 7), (1, Operand.tmp 9), (2, Operand.tmp 12)], type := 25, pos := "json.go:265", after := #[eDa 1, eDa 3, eDa 6], guard := none }) (v := ?_) rfl (by kernel_rfl) (by kernel_rfl) (by kernel_rfl) (by kernel_rfl) (fun _ _ _ h => h) (Or.inl ⟨by rfl, ?_⟩) (fun _ => by assumption) ?_
    rotate_left
    · intro w _; go_simp; with_reducible rfl
    try simp only [Act.put, aSA, aSZ, aSS]
    refine wpAnyU_ready (rs := [8]) (by kernel_rfl) (by simp) (AllReadyU.cons (o := { dst := some 3, op := Op.alloc 25, type := 0, pos := "json.go:265", after := #[], guard := none }) rfl (fun K hK => ?_) AllReadyU.nil)
    rw [if_pos (by rfl)]
    go_simp
    refine hK.out _ _ (fun _ => HS1.out _ (hB2.alloc hB2.size _)) (fun hS2 => ?_)
    replace hS2 := hS2 (by decide)
    clear hK K
    try simp only [Act.put, aSA, aSZ, aSS]
    refine wpAnyU_ready (rs := [9]) (by kernel_rfl) (by simp) (AllReadyU.cons (o := { dst := none, op := Op.store 25 (Operand.tmp 3) (Operand.tmp 13), type := 0, pos := "json.go:265", after := #[eDa 8, eDa 7, eCh 6, ePh 0, ePh 1, ePh 2, ePh 3, ePh 4, ePh 5, ePh 6, ePh 7, ePh 8], guard := none }) rfl (fun K hK => ?_) AllReadyU.nil)
    rw [if_pos (by rfl)]
    have th8 := there4 (alloc_at w2 (.cells #[.int .i64 0, .string ⟨#[]⟩, .slice none 0 0, .slice none 0 0] 25)); obtain ⟨hd8, gb8⟩ := setCells_all (v0 := .int .i64 k) (v1 := .string S) (v2 := (.slice pv ks.length cv)) (v3 := .slice none 0 0) (alloc_at w2 (.cells #[.int .i64 0, .string ⟨#[]⟩, .slice none 0 0, .slice none 0 0] 25)); refine wp_store_el (.tmp 3) (.tmp 13) rfl w2.heap.size 0 (.int .i64 k) (.string S) (.slice pv ks.length cv) (.slice none 0 0) rfl rfl th8 (by simp [Value.oneCell']) ?_; intro W8 H8; rw [← H8.out] at hd8 gb8
    refine hK.out _ _ (fun h => absurd h (by decide)) (fun _ => ?_)
    clear hK K
    try simp only [Act.put]
    refine wpAnyU_done (by kernel_rfl) ?_ _
    clear c0 c1 c2 c3
    obtain ⟨ob, hob⟩ : ∃ ob, w2.heap.size = ob := ⟨_, rfl⟩
    have hBz := hB2.size
    have hB8 : Below W.heap.size W W8 := below_fr (hB2.alloc hB2.size (.cells #[.int .i64 0, .string ⟨#[]⟩, .slice none 0 0, .slice none 0 0] 25)) (Nat.le_refl _) (FrP.of (P := fun b => b = w2.heap.size) gb8 rfl) (fun b hb => by omega)
    have hCV : CV W8 W.heap.size w2.heap.size k S ks [] (.slice pv ks.length cv) (.slice none 0 0) := cv_first hd8 (row_fr (hrow.alloc (.cells #[.int .i64 0, .string ⟨#[]⟩, .slice none 0 0, .slice none 0 0] 25)) (FrP.of (P := fun b => b = w2.heap.size) gb8 rfl) (fun b hb e => by have := (row_lt hrow hb).2; omega)) (fun e => by have := (row_lt hrow e).2; omega) hBz rfl
    clear hd8 gb8 hrow hg2 hkb hrun H8 th8 hHeld
    simp only [hob] at *
    obtain ⟨c0, c1, c2, c3⟩ := HBX.out W8 hB8
    go_wp2_with fail
    go_loopw [17] (fun iv wr => ∃ (i : Nat) (L : List IC) (iw : Value), iv = .int .i64 i ∧ i ≤ it.length ∧ L.map (·.y) = it.take i ∧ CV wr W.heap.size ob k S ks L (.slice pv ks.length cv) iw ∧ Below W.heap.size W wr) (fun iv _ => it.length - (RowKit.intOf iv).toNat)
    case atStart => exact ⟨0, [], _, rfl, Nat.zero_le _, rfl, hCV, hB8⟩
    case round =>
     obtain ⟨i, L, iw, rfl, hi, hL, hC, hB⟩ := hrel
     have hLl : L.length = i := by
      have := congrArg List.length hL
      rw [List.length_map, List.length_take] at this
      omega
     obtain ⟨pi, ci, rfl⟩ := row_form hC.ri
     have hLn : L.length ≤ 1000000 := by omega
     clear c0 c1 c2 c3 hCV hB8 hLl
     by_cases hin : (i : Int) < (it.length : Int)
     · obtain ⟨y, hy⟩ : ∃ y, it[i]? = some y := ⟨_, List.getElem?_eq_getElem (by omega)⟩
       obtain ⟨hyl, a, rfl, hjc⟩ := HI.out i y hy
       obtain ⟨g0, g1, g2, g3, _⟩ := hjc.below (HB.out _ hB)
       obtain ⟨Y, hY⟩ : ∃ Y : ByteArray, (⟨y.str.toArray⟩ : ByteArray) = Y := ⟨_, rfl⟩
       rw [hY] at g1
       obtain ⟨wa, hwa⟩ : ∃ wa, wr.alloc (.cells #[.int .i64 y.kind, .string Y, .slice (fp i) y.keys.length (fc i), .slice (gp i) y.items.length (gc i)] 25) = wa := ⟨_, rfl⟩
       have hra : Below wr.heap.size wr wa := by rw [← hwa]; exact (Below.refl _ _).alloc (Nat.le_refl _) _
       have hBa := hB.trans (hra.mono hB.size)
       have hBd : Below w.heap.size w wa.drew := HB.out _ hBa.drew
       have hxb := box_at (x := y) hY hwa wa (Below.refl _ _)
       have hCa := hC.below hra
       have hwz : wr.heap.size < wa.heap.size := by rw [← hwa]; simp
       have HCALL : Hid (∀ V, Below w.heap.size w V → Calls Tryz.prog 85 #[.agg #[.int .i64 y.kind, .string Y, .slice (fp i) y.keys.length (fc i), .slice (gp i) y.items.length (gc i)]] V (CL V y)) := Lib.hid fun V hV => by
        have := HIH.out i y hy (HWT.out i y hy) hyl V hV
        unfold jval at this
        rw [hY] at this
        exact this
       have HS5 : Hid (∀ wx, FrP (fun b => (Value.slice pi L.length ci).ownBlock = some b) wa wx → (wx.cell? ⟨wr.heap.size, 0, none⟩ = some (.int .i64 y.kind) ∧ wx.cell? ⟨wr.heap.size, 1, none⟩ = some (.string Y) ∧ wx.cell? ⟨wr.heap.size, 2, none⟩ = some (.slice (fp i) y.keys.length (fc i)) ∧ wx.cell? ⟨wr.heap.size, 3, none⟩ = some (.slice (gp i) y.items.length (gc i))) ∧ wx.cell? ⟨ob, 3, none⟩ = some (.slice pi L.length ci) ∧ wx.frozen? ⟨ob, 3, none⟩ = false) := Lib.hid fun wx hF => by
        have e1 := hF.block wr.heap.size hwz (fun e => by have := (row_lt hC.ri e).2; omega)
        have e2 := (hF.block ob (ltS hCa.hd) hC.ni).trans hCa.hd
        obtain ⟨z0, z1, z2, z3⟩ := hxb
        exact ⟨⟨cell_same z0 e1, cell_same z1 e1, cell_same z2 e1, cell_same z3 e1⟩, by simp [World.cell?, e2], by simp [World.frozen?, e2]⟩
       have HCV := Lib.hid hCa
       have HL := Lib.hid hL
       have HY := Lib.hid hY
       have HYI := Lib.hid hy
       have HYL := Lib.hid hyl
       obtain ⟨i45_, hi45, hz450, hz451, hz452⟩ := info_parts info45
       clear hC hCa hL hY hy hxb hjc hra hyl
       go_upto_region 5 with fail
       refine wp_region_late (S := fun v => (v.cell? ⟨wr.heap.size, 0, none⟩ = some (.int .i64 y.kind) ∧ v.cell? ⟨wr.heap.size, 1, none⟩ = some (.string Y) ∧ v.cell? ⟨wr.heap.size, 2, none⟩ = some (.slice (fp i) y.keys.length (fc i)) ∧ v.cell? ⟨wr.heap.size, 3, none⟩ = some (.slice (gp i) y.items.length (gc i))) ∧ v.cell? ⟨ob, 3, none⟩ = some (.slice pi L.length ci) ∧ v.frozen? ⟨ob, 3, none⟩ = false) 7 (by kernel_rfl) (HS5.out _ ((FrP.refl _ _).drew)) (fun hHeld => ?_)
       refine wpAnyU_take (i := 0) (oi := { dst := some 21, op := Op.fieldAddr 25 (Operand.tmp 3) 3, type := 0, pos := "json.go:267", after := #[], guard := none }) (v := ?_) [1, 5, 6, 7] rfl (by kernel_rfl) (by kernel_rfl) (by kernel_rfl) (by kernel_rfl) (fun _ _ _ h => h) (Or.inl ⟨by rfl, ?_⟩) (by assumption) ?_
       rotate_left
       · intro w hS; obtain ⟨⟨hS0, hS1, hS2, hS3⟩, hS4, hS5⟩ := hS; go_simp; with_reducible rfl
       try simp only [Act.put, aSA, aSZ, aSS]
       refine wpAnyU_take (i := 1) (oi := { dst := some 22, op := Op.load 23 (Operand.tmp 21), type := 23, pos := "json.go:267", after := #[eDa 0], guard := none }) (v := ?_) [5, 6, 7] rfl (by kernel_rfl) (by kernel_rfl) (by kernel_rfl) (by kernel_rfl) (fun _ _ _ h => h) (Or.inl ⟨by rfl, ?_⟩) (by assumption) ?_
       rotate_left
       · intro w hS; obtain ⟨⟨hS0, hS1, hS2, hS3⟩, hS4, hS5⟩ := hS; go_simp; with_reducible rfl
       try simp only [Act.put, aSA, aSZ, aSS]
       refine wpAnyU_take (i := 2) (oi := { dst := some 23, op := Op.load 25 (Operand.tmp 5), type := 25, pos := "json.go:267", after := #[], guard := none }) (v := ?_) [3, 4, 5, 6, 7] rfl (by kernel_rfl) (by kernel_rfl) (by kernel_rfl) (by kernel_rfl) (fun _ _ _ h => h) (Or.inl ⟨by rfl, ?_⟩) (by assumption) ?_
       rotate_left
       · intro w hS; obtain ⟨⟨hS0, hS1, hS2, hS3⟩, hS4, hS5⟩ := hS; go_simp; with_reducible rfl
       try simp only [Act.put, aSA, aSZ, aSS]
       refine wpAnyU_ready (rs := [3]) (by kernel_rfl) (by simp) (AllReadyU.cons (o := { dst := some 24, op := Op.call { callee := Callee.value (Operand.func 85), args := #[Operand.tmp 23], argTypes := #[25] }, type := 25, pos := "json.go:267", after := #[eDa 2], guard := none }) rfl (fun K hK => ?_) AllReadyU.nil)
       rw [if_pos (by rfl)]
       go_simp
       (go_at_call 85; refine (HCALL.out _ hBd).mono ?_; rintro e w6 hcl; obtain ⟨vp, vc, vp', vc', rfl, hkp, hb6⟩ := CL.cells HY.out hcl; have F6 : FrP (fun b => (Value.slice pi L.length ci).ownBlock = some b) wa w6 := (FrP.refl _ _).drew.trans (FrP.of_none (gb_below' hb6)); have hri6 := row_fr HCV.out.ri ((FrP.refl (fun _ => False) _).drew.trans (FrP.of_none (gb_below' hb6))) (fun _ _ h => h))
       refine hK.out _ _ (fun _ => HS5.out _ F6) (fun hS2 => ?_)
       replace hS2 := hS2 (by decide)
       clear hK K
       try simp only [Act.put, aSA, aSZ, aSS]
       refine wpAnyU_ready (rs := [4]) (by kernel_rfl) (by simp) (AllReadyU.cons (o := { dst := some 25, op := Op.buildSlice 23 1 #[(0, Operand.tmp 24)], type := 23, pos := "json.go:267", after := #[eDa 3], guard := none }) rfl (fun K hK => ?_) AllReadyU.nil)
       rw [if_pos (by rfl)]
       go_simp
       refine hK.out _ _ (fun _ => HS5.out _ (F6.alloc _)) (fun hS2 => ?_)
       replace hS2 := hS2 (by decide)
       clear hK K
       try simp only [Act.put, aSA, aSZ, aSS]
       refine wpAnyU_ready (rs := [5]) (by kernel_rfl) (by simp) (AllReadyU.cons (o := { dst := some 26, op := Op.call { callee := Callee.builtin Builtin.append, args := #[Operand.tmp 22, Operand.tmp 25], argTypes := #[23, 23] }, type := 23, pos := "json.go:267", after := #[eDa 1, eDa 4, eCh 3], guard := none }) rfl (fun K hK => ?_) AllReadyU.nil)
       rw [if_pos (by rfl)]
       refine wp_append_own_at (.tmp 22) (.tmp 25) 23 rfl W.heap.size 25 i45_ _ 4 72 Tryz.underlying23 hi45 hz450 hz451 hz452 rfl (by decide) _ _ _ rfl (hri6.alloc (.cells #[.int .i64 y.kind, .string Y, .slice vp y.keys.length vc, .slice vp' y.items.length vc'] 25)) ⟨w6.heap.size, 0, none⟩ 1 1 [.int .i64 y.kind, .string Y, .slice vp y.keys.length vc, .slice vp' y.items.length vc'] rfl rfl (new_cells _ _ _) (fun u hu => by simp only [List.mem_cons, List.not_mem_nil, or_false] at hu; rcases hu with rfl | rfl | rfl | rfl <;> rfl) (by unfold maxLen; omega) (by omega) (by have := F6.size; have := hBa.size; simp; omega) ?_; intro iv2 w7 hi2 hgi hat2; have F7 := (F6.alloc (.cells #[.int .i64 y.kind, .string Y, .slice vp y.keys.length vc, .slice vp' y.items.length vc'] 25)).trans (FrP.of_row hgi (fun k hk => hk)); obtain ⟨_, y2, y3⟩ := HS5.out _ F7; obtain ⟨pw, cw, rfl⟩ := row_form hi2
       refine hK.out _ _ (fun _ => HS5.out _ F7) (fun hS2 => ?_)
       replace hS2 := hS2 (by decide)
       clear hK K
       try simp only [Act.put, aSA, aSZ, aSS]
       refine wpAnyU_pure (i := 6) (oi := { dst := some 27, op := Op.fieldAddr 25 (Operand.tmp 3) 3, type := 0, pos := "json.go:267", after := #[ePh 0, ePh 1, ePh 2, ePh 3, ePh 4, ePh 5], guard := none }) (v := ?_) rfl (by kernel_rfl) (by kernel_rfl) (by kernel_rfl) (by kernel_rfl) (fun _ _ _ h => h) (Or.inl ⟨by rfl, ?_⟩) (fun _ => by assumption) ?_
       rotate_left
       · intro w _; go_simp; with_reducible rfl
       try simp only [Act.put, aSA, aSZ, aSS]
       refine wpAnyU_ready (rs := [7]) (by kernel_rfl) (by simp) (AllReadyU.cons (o := { dst := none, op := Op.store 23 (Operand.tmp 27) (Operand.tmp 26), type := 0, pos := "json.go:267", after := #[eDa 6, eDa 5, eCh 5, ePh 0, ePh 1, ePh 2, ePh 3, ePh 4, ePh 5], guard := none }) rfl (fun K hK => ?_) AllReadyU.nil)
       rw [if_pos (by rfl)]
       go_simp
       refine hK.out _ _ (fun h => absurd h (by decide)) (fun _ => ?_)
       clear hK K
       try simp only [Act.put, aSA, aSZ, aSS]
       refine wpAnyU_done (by kernel_rfl) ?_ _
       go_wp2_with fail
       have hadd := CV.add (c := ⟨y, vp, vc, vp', vc'⟩) (HCV.out.below (Below.refl _ _).drew) (World.grownBy.refl wa.drew none) (gb_below' hb6) (World.grownBy_alloc w6 (.cells #[.int .i64 y.kind, .string Y, .slice vp y.keys.length vc, .slice vp' y.items.length vc'] 25) none) hgi hat2 (by show w7.ownsRow _ _ _ _ _ (rowC L ++ [_, _, _, _]); rw [HY.out]; exact hi2) ⟨hkp, HYL.out⟩
       go_roundw
       case rel => exact ⟨i + 1, L ++ [⟨y, vp, vc, vp', vc'⟩], _, by go_num, by omega, by rw [List.map_append, HL.out, List.take_add_one, HYI.out]; rfl, hadd.1, below_fr hBa.drew (Nat.le_refl _) hadd.2 (fun b hb => by
        rcases hb with rfl | hb
        · exact HCV.out.vB
        · exact (row_lt HCV.out.ri hb).1)⟩
       case measure => simp [RowKit.intOf]; omega
     · have hii : i = it.length := by omega
       subst hii
       rw [List.take_length] at hL
       obtain ⟨o0, o1, o2, o3⟩ := cells4 hC.hd
       have hbz : JBox wr (w'.heap.size + 1) := HJZ.out.same (hB.block _ HJZ.out.lt)
       have HC := Lib.hid hC
       have HL := Lib.hid hL
       have HBB := Lib.hid hbz
       clear hC hL hbz
       go_wp2_with (first | (refine store_val rfl (.tmp 2) (.tmp 29) rfl (w'.heap.size + 1) rfl (.int .i64 k) (.string S) (.slice pv ks.length cv) (.slice pi L.length ci) rfl rfl HBB.out (fun V hV hgV _ => ?_)))
       refine bodyPost_ret (ret_val Tryz.results85 rfl hV) rfl ?_
       exact clone_end HC.out HL.out HSS.out HSM.out HBW.out hB (by have := HZ2.out; omega) (by omega) hgV
  · rw [if_pos (by rfl)]
    go_simp
    refine hK.out _ _ (fun _ => HS1.out _ ((Below.refl W.heap.size W).drew.alloc (Nat.le_refl _) _)) (fun hS2 => ?_)
    replace hS2 := hS2 (by decide)
    clear hK K
    try simp only [Act.put, aSA, aSZ, aSS]
    refine wpAnyU_ready (rs := [6]) (by kernel_rfl) (by simp) (AllReadyU.cons (o := { dst := some 12, op := Op.call { callee := Callee.builtin Builtin.append, args := #[Operand.const (Value.slice none 0 0), Operand.tmp 11], argTypes := #[22, 22] }, type := 22, pos := "json.go:265", after := #[eDa 5], guard := none }) rfl (fun K hK => ?_) AllReadyU.nil)
    rw [if_pos (by rfl)]
    obtain ⟨kv, w2, hrun, hrow, hg2, hkb⟩ := HAP.out (W.drew.alloc (.cells #[.int .i64 0, .string ⟨#[]⟩, .slice none 0 0, .slice none 0 0] 25)) ((Below.refl W.heap.size W).drew.alloc (Nat.le_refl _) (.cells #[.int .i64 0, .string ⟨#[]⟩, .slice none 0 0, .slice none 0 0] 25)); obtain ⟨pv, cv, rfl⟩ := row_form hrow; refine wp_append_run (.const (.slice none 0 0)) (.tmp 11) rfl rfl _ _ rfl rfl hrun ?_; have hB2 : Below W.heap.size W w2 := below_fr ((Below.refl W.heap.size W).drew.alloc (Nat.le_refl _) (.cells #[.int .i64 0, .string ⟨#[]⟩, .slice none 0 0, .slice none 0 0] 25)) (Nat.le_refl _) (FrP.of_none (P := fun _ => False) hg2) (fun _ => False.elim)
    refine hK.out _ _ (fun _ => HS1.out _ hB2) (fun hS2 => ?_)
    replace hS2 := hS2 (by decide)
    clear hK K
    try simp only [Act.put, aSA, aSZ, aSS]
    refine wpAnyU_pure (i := 7) (oi := { dst := some 13, op := Op.build 25 #[(0, Operand.tmp 7), (1, Operand.tmp 9), (2, Operand.tmp 12)], type := 25, pos := "json.go:265", after := #[eDa 1, eDa 3, eDa 6], guard := none }) (v := ?_) rfl (by kernel_rfl) (by kernel_rfl) (by kernel_rfl) (by kernel_rfl) (fun _ _ _ h => h) (Or.inl ⟨by rfl, ?_⟩) (fun _ => by assumption) ?_
    rotate_left
    · intro w _; go_simp; with_reducible rfl
    try simp only [Act.put, aSA, aSZ, aSS]
    refine wpAnyU_ready (rs := [9]) (by kernel_rfl) (by simp) (AllReadyU.cons (o := { dst := none, op := Op.store 25 (Operand.tmp 3) (Operand.tmp 13), type := 0, pos := "json.go:265", after := #[eDa 8, eDa 7, eCh 6, ePh 0, ePh 1, ePh 2, ePh 3, ePh 4, ePh 5, ePh 6, ePh 7, ePh 8], guard := none }) rfl (fun K hK => ?_) AllReadyU.nil)
    rw [if_pos (by rfl)]
    have th8 := there4 ((hg2.block W.drew.heap.size (by simp) (by simp)).trans (alloc_at W.drew (.cells #[.int .i64 0, .string ⟨#[]⟩, .slice none 0 0, .slice none 0 0] 25))); obtain ⟨hd8, gb8⟩ := setCells_all (v0 := .int .i64 k) (v1 := .string S) (v2 := (.slice pv ks.length cv)) (v3 := .slice none 0 0) ((hg2.block W.drew.heap.size (by simp) (by simp)).trans (alloc_at W.drew (.cells #[.int .i64 0, .string ⟨#[]⟩, .slice none 0 0, .slice none 0 0] 25))); refine wp_store_el (.tmp 3) (.tmp 13) rfl W.drew.heap.size 0 (.int .i64 k) (.string S) (.slice pv ks.length cv) (.slice none 0 0) rfl rfl th8 (by simp [Value.oneCell']) ?_; intro W8 H8; rw [← H8.out] at hd8 gb8
    refine hK.out _ _ (fun h => absurd h (by decide)) (fun _ => ?_)
    clear hK K
    try simp only [Act.put]
    refine wpAnyU_done (by kernel_rfl) ?_ _
    clear c0 c1 c2 c3
    have hdz : W.drew.heap.size = W.heap.size := rfl
    have haz : (W.drew.alloc (.cells #[.int .i64 0, .string ⟨#[]⟩, .slice none 0 0, .slice none 0 0] 25)).heap.size = W.heap.size + 1 := by simp
    have hB8 : Below W.heap.size W W8 := below_fr hB2 (Nat.le_refl _) (FrP.of (P := fun b => b = W.drew.heap.size) gb8 rfl) (fun b hb => by omega)
    have hCV : CV W8 W.heap.size W.heap.size k S ks [] (.slice pv ks.length cv) (.slice none 0 0) := cv_first hd8 (row_fr hrow (FrP.of (P := fun b => b = W.drew.heap.size) gb8 rfl) (fun b hb e => by have := hkb b hb; omega)) (fun e => by have := hkb _ e; omega) (Nat.le_refl _) rfl
    clear hd8 gb8 hrow hg2 hkb hrun H8 th8 hHeld hdz haz
    obtain ⟨c0, c1, c2, c3⟩ := HBX.out W8 hB8
    go_wp2_with fail
    go_loopw [17] (fun iv wr => ∃ (i : Nat) (L : List IC) (iw : Value), iv = .int .i64 i ∧ i ≤ it.length ∧ L.map (·.y) = it.take i ∧ CV wr W.heap.size (W.heap.size) k S ks L (.slice pv ks.length cv) iw ∧ Below W.heap.size W wr) (fun iv _ => it.length - (RowKit.intOf iv).toNat)
    case atStart => exact ⟨0, [], _, rfl, Nat.zero_le _, rfl, hCV, hB8⟩
    case round =>
     obtain ⟨i, L, iw, rfl, hi, hL, hC, hB⟩ := hrel
     have hLl : L.length = i := by
      have := congrArg List.length hL
      rw [List.length_map, List.length_take] at this
      omega
     obtain ⟨pi, ci, rfl⟩ := row_form hC.ri
     have hLn : L.length ≤ 1000000 := by omega
     clear c0 c1 c2 c3 hCV hB8 hLl
     by_cases hin : (i : Int) < (it.length : Int)
     · obtain ⟨y, hy⟩ : ∃ y, it[i]? = some y := ⟨_, List.getElem?_eq_getElem (by omega)⟩
       obtain ⟨hyl, a, rfl, hjc⟩ := HI.out i y hy
       obtain ⟨g0, g1, g2, g3, _⟩ := hjc.below (HB.out _ hB)
       obtain ⟨Y, hY⟩ : ∃ Y : ByteArray, (⟨y.str.toArray⟩ : ByteArray) = Y := ⟨_, rfl⟩
       rw [hY] at g1
       obtain ⟨wa, hwa⟩ : ∃ wa, wr.alloc (.cells #[.int .i64 y.kind, .string Y, .slice (fp i) y.keys.length (fc i), .slice (gp i) y.items.length (gc i)] 25) = wa := ⟨_, rfl⟩
       have hra : Below wr.heap.size wr wa := by rw [← hwa]; exact (Below.refl _ _).alloc (Nat.le_refl _) _
       have hBa := hB.trans (hra.mono hB.size)
       have hBd : Below w.heap.size w wa.drew := HB.out _ hBa.drew
       have hxb := box_at (x := y) hY hwa wa (Below.refl _ _)
       have hCa := hC.below hra
       have hwz : wr.heap.size < wa.heap.size := by rw [← hwa]; simp
       have HCALL : Hid (∀ V, Below w.heap.size w V → Calls Tryz.prog 85 #[.agg #[.int .i64 y.kind, .string Y, .slice (fp i) y.keys.length (fc i), .slice (gp i) y.items.length (gc i)]] V (CL V y)) := Lib.hid fun V hV => by
        have := HIH.out i y hy (HWT.out i y hy) hyl V hV
        unfold jval at this
        rw [hY] at this
        exact this
       have HS5 : Hid (∀ wx, FrP (fun b => (Value.slice pi L.length ci).ownBlock = some b) wa wx → (wx.cell? ⟨wr.heap.size, 0, none⟩ = some (.int .i64 y.kind) ∧ wx.cell? ⟨wr.heap.size, 1, none⟩ = some (.string Y) ∧ wx.cell? ⟨wr.heap.size, 2, none⟩ = some (.slice (fp i) y.keys.length (fc i)) ∧ wx.cell? ⟨wr.heap.size, 3, none⟩ = some (.slice (gp i) y.items.length (gc i))) ∧ wx.cell? ⟨(W.heap.size), 3, none⟩ = some (.slice pi L.length ci) ∧ wx.frozen? ⟨(W.heap.size), 3, none⟩ = false) := Lib.hid fun wx hF => by
        have e1 := hF.block wr.heap.size hwz (fun e => by have := (row_lt hC.ri e).2; omega)
        have e2 := (hF.block (W.heap.size) (ltS hCa.hd) hC.ni).trans hCa.hd
        obtain ⟨z0, z1, z2, z3⟩ := hxb
        exact ⟨⟨cell_same z0 e1, cell_same z1 e1, cell_same z2 e1, cell_same z3 e1⟩, by simp [World.cell?, e2], by simp [World.frozen?, e2]⟩
       have HCV := Lib.hid hCa
       have HL := Lib.hid hL
       have HY := Lib.hid hY
       have HYI := Lib.hid hy
       have HYL := Lib.hid hyl
       obtain ⟨i45_, hi45, hz450, hz451, hz452⟩ := info_parts info45
       clear hC hCa hL hY hy hxb hjc hra hyl
       go_upto_region 5 with fail
       refine wp_region_late (S := fun v => (v.cell? ⟨wr.heap.size, 0, none⟩ = some (.int .i64 y.kind) ∧ v.cell? ⟨wr.heap.size, 1, none⟩ = some (.string Y) ∧ v.cell? ⟨wr.heap.size, 2, none⟩ = some (.slice (fp i) y.keys.length (fc i)) ∧ v.cell? ⟨wr.heap.size, 3, none⟩ = some (.slice (gp i) y.items.length (gc i))) ∧ v.cell? ⟨(W.heap.size), 3, none⟩ = some (.slice pi L.length ci) ∧ v.frozen? ⟨(W.heap.size), 3, none⟩ = false) 7 (by kernel_rfl) (HS5.out _ ((FrP.refl _ _).drew)) (fun hHeld => ?_)
       refine wpAnyU_take (i := 0) (oi := { dst := some 21, op := Op.fieldAddr 25 (Operand.tmp 3) 3, type := 0, pos := "json.go:267", after := #[], guard := none }) (v := ?_) [1, 5, 6, 7] rfl (by kernel_rfl) (by kernel_rfl) (by kernel_rfl) (by kernel_rfl) (fun _ _ _ h => h) (Or.inl ⟨by rfl, ?_⟩) (by assumption) ?_
       rotate_left
       · intro w hS; obtain ⟨⟨hS0, hS1, hS2, hS3⟩, hS4, hS5⟩ := hS; go_simp; with_reducible rfl
       try simp only [Act.put, aSA, aSZ, aSS]
       refine wpAnyU_take (i := 1) (oi := { dst := some 22, op := Op.load 23 (Operand.tmp 21), type := 23, pos := "json.go:267", after := #[eDa 0], guard := none }) (v := ?_) [5, 6, 7] rfl (by kernel_rfl) (by kernel_rfl) (by kernel_rfl) (by kernel_rfl) (fun _ _ _ h => h) (Or.inl ⟨by rfl, ?_⟩) (by assumption) ?_
       rotate_left
       · intro w hS; obtain ⟨⟨hS0, hS1, hS2, hS3⟩, hS4, hS5⟩ := hS; go_simp; with_reducible rfl
       try simp only [Act.put, aSA, aSZ, aSS]
       refine wpAnyU_take (i := 2) (oi := { dst := some 23, op := Op.load 25 (Operand.tmp 5), type := 25, pos := "json.go:267", after := #[], guard := none }) (v := ?_) [3, 4, 5, 6, 7] rfl (by kernel_rfl) (by kernel_rfl) (by kernel_rfl) (by kernel_rfl) (fun _ _ _ h => h) (Or.inl ⟨by rfl, ?_⟩) (by assumption) ?_
       rotate_left
       · intro w hS; obtain ⟨⟨hS0, hS1, hS2, hS3⟩, hS4, hS5⟩ := hS; go_simp; with_reducible rfl
       try simp only [Act.put, aSA, aSZ, aSS]
       refine wpAnyU_ready (rs := [3]) (by kernel_rfl) (by simp) (AllReadyU.cons (o := { dst := some 24, op := Op.call { callee := Callee.value (Operand.func 85), args := #[Operand.tmp 23], argTypes := #[25] }, type := 25, pos := "json.go:267", after := #[eDa 2], guard := none }) rfl (fun K hK => ?_) AllReadyU.nil)
       rw [if_pos (by rfl)]
       go_simp
       (go_at_call 85; refine (HCALL.out _ hBd).mono ?_; rintro e w6 hcl; obtain ⟨vp, vc, vp', vc', rfl, hkp, hb6⟩ := CL.cells HY.out hcl; have F6 : FrP (fun b => (Value.slice pi L.length ci).ownBlock = some b) wa w6 := (FrP.refl _ _).drew.trans (FrP.of_none (gb_below' hb6)); have hri6 := row_fr HCV.out.ri ((FrP.refl (fun _ => False) _).drew.trans (FrP.of_none (gb_below' hb6))) (fun _ _ h => h))
       refine hK.out _ _ (fun _ => HS5.out _ F6) (fun hS2 => ?_)
       replace hS2 := hS2 (by decide)
       clear hK K
       try simp only [Act.put, aSA, aSZ, aSS]
       refine wpAnyU_ready (rs := [4]) (by kernel_rfl) (by simp) (AllReadyU.cons (o := { dst := some 25, op := Op.buildSlice 23 1 #[(0, Operand.tmp 24)], type := 23, pos := "json.go:267", after := #[eDa 3], guard := none }) rfl (fun K hK => ?_) AllReadyU.nil)
       rw [if_pos (by rfl)]
       go_simp
       refine hK.out _ _ (fun _ => HS5.out _ (F6.alloc _)) (fun hS2 => ?_)
       replace hS2 := hS2 (by decide)
       clear hK K
       try simp only [Act.put, aSA, aSZ, aSS]
       refine wpAnyU_ready (rs := [5]) (by kernel_rfl) (by simp) (AllReadyU.cons (o := { dst := some 26, op := Op.call { callee := Callee.builtin Builtin.append, args := #[Operand.tmp 22, Operand.tmp 25], argTypes := #[23, 23] }, type := 23, pos := "json.go:267", after := #[eDa 1, eDa 4, eCh 3], guard := none }) rfl (fun K hK => ?_) AllReadyU.nil)
       rw [if_pos (by rfl)]
       refine wp_append_own_at (.tmp 22) (.tmp 25) 23 rfl W.heap.size 25 i45_ _ 4 72 Tryz.underlying23 hi45 hz450 hz451 hz452 rfl (by decide) _ _ _ rfl (hri6.alloc (.cells #[.int .i64 y.kind, .string Y, .slice vp y.keys.length vc, .slice vp' y.items.length vc'] 25)) ⟨w6.heap.size, 0, none⟩ 1 1 [.int .i64 y.kind, .string Y, .slice vp y.keys.length vc, .slice vp' y.items.length vc'] rfl rfl (new_cells _ _ _) (fun u hu => by simp only [List.mem_cons, List.not_mem_nil, or_false] at hu; rcases hu with rfl | rfl | rfl | rfl <;> rfl) (by unfold maxLen; omega) (by omega) (by have := F6.size; have := hBa.size; simp; omega) ?_; intro iv2 w7 hi2 hgi hat2; have F7 := (F6.alloc (.cells #[.int .i64 y.kind, .string Y, .slice vp y.keys.length vc, .slice vp' y.items.length vc'] 25)).trans (FrP.of_row hgi (fun k hk => hk)); obtain ⟨_, y2, y3⟩ := HS5.out _ F7; obtain ⟨pw, cw, rfl⟩ := row_form hi2
       refine hK.out _ _ (fun _ => HS5.out _ F7) (fun hS2 => ?_)
       replace hS2 := hS2 (by decide)
       clear hK K
       try simp only [Act.put, aSA, aSZ, aSS]
       refine wpAnyU_pure (i := 6) (oi := { dst := some 27, op := Op.fieldAddr 25 (Operand.tmp 3) 3, type := 0, pos := "json.go:267", after := #[ePh 0, ePh 1, ePh 2, ePh 3, ePh 4, ePh 5], guard := none }) (v := ?_) rfl (by kernel_rfl) (by kernel_rfl) (by kernel_rfl) (by kernel_rfl) (fun _ _ _ h => h) (Or.inl ⟨by rfl, ?_⟩) (fun _ => by assumption) ?_
       rotate_left
       · intro w _; go_simp; with_reducible rfl
       try simp only [Act.put, aSA, aSZ, aSS]
       refine wpAnyU_ready (rs := [7]) (by kernel_rfl) (by simp) (AllReadyU.cons (o := { dst := none, op := Op.store 23 (Operand.tmp 27) (Operand.tmp 26), type := 0, pos := "json.go:267", after := #[eDa 6, eDa 5, eCh 5, ePh 0, ePh 1, ePh 2, ePh 3, ePh 4, ePh 5], guard := none }) rfl (fun K hK => ?_) AllReadyU.nil)
       rw [if_pos (by rfl)]
       go_simp
       refine hK.out _ _ (fun h => absurd h (by decide)) (fun _ => ?_)
       clear hK K
       try simp only [Act.put, aSA, aSZ, aSS]
       refine wpAnyU_done (by kernel_rfl) ?_ _
       go_wp2_with fail
       have hadd := CV.add (c := ⟨y, vp, vc, vp', vc'⟩) (HCV.out.below (Below.refl _ _).drew) (World.grownBy.refl wa.drew none) (gb_below' hb6) (World.grownBy_alloc w6 (.cells #[.int .i64 y.kind, .string Y, .slice vp y.keys.length vc, .slice vp' y.items.length vc'] 25) none) hgi hat2 (by show w7.ownsRow _ _ _ _ _ (rowC L ++ [_, _, _, _]); rw [HY.out]; exact hi2) ⟨hkp, HYL.out⟩
       go_roundw
       case rel => exact ⟨i + 1, L ++ [⟨y, vp, vc, vp', vc'⟩], _, by go_num, by omega, by rw [List.map_append, HL.out, List.take_add_one, HYI.out]; rfl, hadd.1, below_fr hBa.drew (Nat.le_refl _) hadd.2 (fun b hb => by
        rcases hb with rfl | hb
        · exact HCV.out.vB
        · exact (row_lt HCV.out.ri hb).1)⟩
       case measure => simp [RowKit.intOf]; omega
     · have hii : i = it.length := by omega
       subst hii
       rw [List.take_length] at hL
       obtain ⟨o0, o1, o2, o3⟩ := cells4 hC.hd
       have hbz : JBox wr (w'.heap.size + 1) := HJZ.out.same (hB.block _ HJZ.out.lt)
       have HC := Lib.hid hC
       have HL := Lib.hid hL
       have HBB := Lib.hid hbz
       clear hC hL hbz
       go_wp2_with (first | (refine store_val rfl (.tmp 2) (.tmp 29) rfl (w'.heap.size + 1) rfl (.int .i64 k) (.string S) (.slice pv ks.length cv) (.slice pi L.length ci) rfl rfl HBB.out (fun V hV hgV _ => ?_)))
       refine bodyPost_ret (ret_val Tryz.results85 rfl hV) rfl ?_
       exact clone_end HC.out HL.out HSS.out HSM.out HBW.out hB (by have := HZ2.out; omega) (by omega) hgV
end Go.Proofs.Jt
