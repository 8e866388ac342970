/- Merged texts: Z3, Z4. -/
import Derived.Test.YtaiaiiepbpbmmaaGreatDoorZX
import Derived.Test.YtaiaiiepbpbmmaaGreatDoorA1
import Derived.Test.YtaiaiiepbpbmmaaGreatDoorVF2
/- Z3: The reference's Text, Put. Printed by gen_z3.py. -/
namespace Go.Proofs.Jt
open Go.RowKit Go.Maps Go.Lib Go.Proofs.Utf Go.Proofs

end Go.Proofs.Jt
/- Z4: The reference's Copy; JsonPuts: the walk. -/
namespace Go.Proofs.Jt
open Go.RowKit Go.Maps Go.Lib Go.Proofs.Utf Go.Proofs

theorem wpl_append_run {ops : Array Oper} {rest : List Oper} {o : Oper} {a : Act} {w : World} {Q : Exit → Act → World → Prop} (hgd : o.guard = none) (s x : Operand) (ho : o.op = .call { callee := .builtin .append, args := #[s, x], argTypes := #[22, 22] }) (hty : o.type = 22)
 (v0 vx : Value) (hs : a.eval s = v0) (hx : a.eval x = vx) {v' : Value} {w' : World} (hr : (Builtin.append_ #[22, 22] 22 #[v0, vx]).run Tryz.prog w = .ok v' w') (h : wpList Tryz.prog ops Q rest (a.put o.dst v') w') : wpList Tryz.prog ops Q (o :: rest) a w :=
 wpList_plain hgd fun _ hK => wp_append_run s x ho hty v0 vx hs hx hr (hK _ _ h)
theorem wpl_append_own_at {ops : Array Oper} {rest : List Oper} {w : World} {o : Oper} {a : Act} {Q : Exit → Act → World → Prop} (hgd : o.guard = none) (s x : Operand)
 (ho : o.op = .call { callee := .builtin .append, args := #[s, x], argTypes := #[23, 23] })
 (base : Nat) (v : Value) (n : Nat) (xs : List Value) (hs : a.eval s = v) (hown : w.ownsRow base 25 4 v n xs)
 (ad : Addr) (c : Nat) (news : List Value) (hx : a.eval x = .slice (some ad) 1 c) (hl : news.length = 4) (hnews : ∀ j u, news[j]? = some u → w.cell? (ad.add j) = some u) (h1 : ∀ u ∈ news, u.oneCell' = true)
 (h63 : n ≤ 1000000) (hbase : base ≤ w.heap.size)
 (h : ∀ v' w', w'.ownsRow base 25 4 v' (n + 1) (xs ++ news) → w.grownBy w' v.ownBlock → (v'.ownBlock = v.ownBlock ∨ v'.ownBlock = some w.heap.size) → wpList Tryz.prog ops Q rest (a.put o.dst v') w') : wpList Tryz.prog ops Q (o :: rest) a w := by
 obtain ⟨i45_, hi45, hz450, hz451, hz452⟩ := info_parts info45
 exact wpList_plain hgd fun _ hK => wp_append_own_at s x 23 ho base 25 i45_ _ 4 72 Tryz.underlying23 hi45 hz450 hz451 hz452 rfl (by decide) v n xs hs hown ad 1 c news hx hl hnews h1 (by unfold maxLen; omega) (by omega) hbase fun v' w' h2 h3 h4 => hK _ _ (h v' w' h2 h3 h4)
set_option maxRecDepth 100000 in
set_option maxHeartbeats 8000000 in
theorem rcopy_any {w : World} {x : JV} {kp ip : Option Addr} {kc ic : Nat} (h : KI w x kp kc ip ic) : x.wt ≤ 1000000 → x.str.length ≤ maxLen → ∀ w', Below w.heap.size w w' → Calls Tryz.prog 16 #[jval x kp kc ip ic] w' (CL w' x) := by
 induction h with
 | mk x kp kc ip ic fp fc gp gc hk hz hi hh ih =>
  intro hwt hsl w' hb
  have hsm := hz
  cases x with
  | mk k s ks it =>
  simp only [str_mk, keys_mk, items_mk] at *
  obtain ⟨S, hS⟩ : ∃ S : ByteArray, (⟨s.toArray⟩ : ByteArray) = S := ⟨_, rfl⟩
  obtain ⟨W1, hW1⟩ : ∃ W, w'.alloc (.cells #[.int .i64 k, .string S, .slice kp ks.length kc, .slice ip it.length ic] 25) = W := ⟨_, rfl⟩
  obtain ⟨W, hW⟩ : ∃ W, W1.alloc (.cells #[.int .i64 0, .string ⟨#[]⟩, .slice none 0 0, .slice none 0 0] 25) = W := ⟨_, rfl⟩
  have bW1 : Below w'.heap.size w' W1 := by rw [← hW1]; exact (Below.refl _ _).alloc (Nat.le_refl _) _
  have bW2 : Below W1.heap.size W1 W := by rw [← hW]; exact (Below.refl _ _).alloc (Nat.le_refl _) _
  have bW : Below w'.heap.size w' W := bW1.trans (bW2.mono bW1.size)
  have hz1 : W1.heap.size = w'.heap.size + 1 := by rw [← hW1]; simp
  have hz2 : W.heap.size = w'.heap.size + 2 := by rw [← hW]; simp; omega
  have hbx0 := box_at (x := .mk k s ks it) hS hW1
  simp only [kind_mk, keys_mk, items_mk] at hbx0
  have hbx : ∀ V, Below W.heap.size W V → _ := fun V hV => hbx0 V (bW2.trans (hV.mono bW2.size))
  have hjz : JBox W (w'.heap.size + 1) := by rw [← hW, ← hz1]; exact JBox.alloc _ _ _ _ _
  have hkn : ks.length ≤ 1000000 := by have := keys_len ks; rw [JV.wt] at hwt; omega
  have hin0 : it.length ≤ 1000000 := by have := items_len it; rw [JV.wt] at hwt; omega
  have HWT : Hid (∀ (i : Nat) (y : JV), it[i]? = some y → y.wt ≤ 1000000) := Lib.hid fun i y hy => by have := wt_item hy; rw [JV.wt] at hwt; omega
  have HB : Hid (∀ W', Below W.heap.size W W' → Below w.heap.size w W') := Lib.hid fun W' hb' => hb.trans ((bW.trans (hb'.mono bW.size)).mono hb.size)
  have HBX : Hid (∀ V, Below W.heap.size W V → _) := Lib.hid hbx
  have HBW := Lib.hid bW
  have HI := Lib.hid hi
  have HIH := Lib.hid ih
  have HSM := Lib.hid hsm
  have HJZ := Lib.hid hjz
  have HAP : Hid (∀ V, Below W.heap.size W V → ∃ kv w2, (Builtin.append_ #[22, 22] 22 #[.slice none 0 0, .slice kp ks.length kc]).run Tryz.prog V = .ok kv w2 ∧ w2.ownsRow W.heap.size 9 1 kv ks.length (strC ks) ∧ V.grownBy w2 none ∧ (∀ b, kv.ownBlock = some b → V.heap.size ≤ b)) := Lib.hid fun V hV => keys_append (hk.below (HB.out V hV)) hkn hV.size
  have HZ2 := Lib.hid hz2
  subst hW1
  obtain ⟨c0, c1, c2, c3⟩ := hbx W (Below.refl _ _)
  unfold jval
  simp only [kind_mk, str_mk, keys_mk, items_mk]
  rw [hS]
  have HSS := Lib.hid hS
  clear hi ih hh hk hz hsm hbx hbx0 bW1 bW2 bW hb hz1 hwt hsl hjz hS hz2
  go_enter Tryz.func16, Tryz.ntmps16
  go_upto_region 2 with fail
  obtain ⟨W3, hW3⟩ : ∃ V, W.alloc (.cells #[.int .i64 k, .string S, .slice none 0 0, .slice none 0 0] 25) = V := ⟨_, rfl⟩
  rw [hW3]
  have hb3 := alloc_b hW3
  have hh3 : W3.heap[W.heap.size]? = some (.cells #[.int .i64 k, .string S, .slice none 0 0, .slice none 0 0] 25 (0, 0)) := by rw [← hW3]; exact alloc_at W _
  have h3z : W3.heap.size = W.heap.size + 1 := by rw [← hW3]; simp
  clear c0 c1 c2 c3
  obtain ⟨c0, c1, c2, c3⟩ := HBX.out W3 hb3
  obtain ⟨d0, d1, d2, d3⟩ := cells4 hh3
  have hfz : W3.frozen? ⟨W.heap.size, 2, none⟩ = false := by simp [World.frozen?, hh3]
  obtain ⟨kv, w2, hrun, hrow, hg2, hkb⟩ := HAP.out W3 hb3
  obtain ⟨pv, cv, rfl⟩ := row_form hrow
  have hh2 := (hg2.block W.heap.size (by omega) (by simp)).trans hh3
  obtain ⟨e0, e1, e2, e3⟩ := cells4 hh2
  have hfz2 : w2.frozen? ⟨W.heap.size, 2, none⟩ = false := by simp [World.frozen?, hh2]
  have HRUN := Lib.hid hrun
  clear hrun
  go_upto_region 3 with (first | (at_builtin; refine wpl_append_run rfl (.tmp 12) (.tmp 14) rfl rfl _ _ rfl rfl HRUN.out ?_))
  obtain ⟨W8, hW8⟩ : ∃ V, w2.setCell ⟨W.heap.size, 2, none⟩ (.slice pv ks.length cv) = V := ⟨_, rfl⟩
  rw [hW8]
  have g8 : w2.grownBy W8 (some W.heap.size) := by rw [← hW8]; exact gb_set _ _ _ _
  have hCV : CV W8 W.heap.size W.heap.size k S ks [] (.slice pv ks.length cv) (.slice none 0 0) := cv_first (by rw [← hW8]; exact heap_setCell_self hh2 2 _) (row_fr hrow (FrP.of (P := fun b => b = W.heap.size) g8 rfl) (fun b hb e => by have := hkb b hb; omega)) (fun e => by have := hkb _ e; omega) (Nat.le_refl _) rfl
  have hB8 : Below W.heap.size W W8 := below_fr (below_fr hb3 (Nat.le_refl _) (FrP.of_none (P := fun _ => False) hg2) (fun _ h => h.elim)) (Nat.le_refl _) (FrP.of (P := fun b => b = W.heap.size) g8 rfl) (fun b hb => by omega)
  clear c0 c1 c2 c3 d0 d1 d2 d3 e0 e1 e2 e3 hfz hfz2 hh2 hh3 hW3 hb3 hrow hg2 hkb g8 hW8 HRUN h3z
  go_wp2_with fail
  go_loopw [4] (fun iv wr => ∃ (i : Nat) (L : List IC) (iw : Value), iv = .int .i64 i ∧ i ≤ it.length ∧ L.map (·.y) = it.take i ∧ CV wr W.heap.size W.heap.size k S ks L (.slice pv ks.length cv) iw ∧ Below W.heap.size W wr) (fun iv _ => it.length - (RowKit.intOf iv).toNat)
  case atStart => exact ⟨0, [], _, rfl, Nat.zero_le _, rfl, hCV, hB8⟩
  case round =>
   obtain ⟨i, L, iw, rfl, hi, hL, hC, hB⟩ := hrel
   have hLl : L.length = i := by
    have := congrArg List.length hL
    rw [List.length_map, List.length_take] at this
    omega
   obtain ⟨pi, ci, rfl⟩ := row_form hC.ri
   have hLn : L.length ≤ 1000000 := by omega
   clear hCV hB8 hLl
   obtain ⟨c0, c1, c2, c3⟩ := HBX.out wr hB
   by_cases hin : (i : Int) < (it.length : Int)
   · obtain ⟨y, hy⟩ : ∃ y, it[i]? = some y := ⟨_, List.getElem?_eq_getElem (by omega)⟩
     obtain ⟨hyl, a, rfl, hjc⟩ := HI.out i y hy
     obtain ⟨g0, g1, g2, g3, _⟩ := hjc.below (HB.out _ hB)
     obtain ⟨Y, hY⟩ : ∃ Y : ByteArray, (⟨y.str.toArray⟩ : ByteArray) = Y := ⟨_, rfl⟩
     rw [hY] at g1
     have hcall := HIH.out i y hy (HWT.out i y hy) hyl wr (HB.out _ hB)
     unfold jval at hcall
     rw [hY] at hcall
     have HC := Lib.hid hC
     have HL := Lib.hid hL
     have HY := Lib.hid hY
     have HYI := Lib.hid hy
     have HYL := Lib.hid hyl
     have hol := (ltS hC.hd)
     clear hC hL hY hy hjc hyl
     go_wp2_with (first
      | (go_at_call 16; refine hcall.mono ?_; rintro e w6 hcl
         obtain ⟨vp, vc, vp', vc', rfl, hkp, hb6⟩ := CL.cells HY.out hcl
         have HKP := Lib.hid hkp
         obtain ⟨V6, hV6⟩ : ∃ V, w6.alloc (.cells #[.int .i64 y.kind, .string Y, .slice vp y.keys.length vc, .slice vp' y.items.length vc'] 25) = V := ⟨_, rfl⟩
         have hv6 := alloc_b hV6
         have hb66 := Below.on hb6 hv6
         obtain ⟨f0, f1, f2, f3⟩ := box_of hV6 V6 (Below.refl _ _)
         have hCV6 := HC.out.below hb66
         obtain ⟨m0, m1, m2, m3⟩ := cells4 hCV6.hd
         have hri6 := hCV6.ri
         have hbs := hb66.size
         have hBs := hB.size
         have HCV6 := Lib.hid hCV6
         clear hcl hkp hCV6)
      | (at_builtin; refine wpl_append_own_at rfl (.tmp 31) (.tmp 33) rfl W.heap.size _ _ _ rfl (hri6.alloc (.cells #[.int .i64 y.kind, .string Y, .slice vp y.keys.length vc, .slice vp' y.items.length vc'] 25)) ⟨V6.heap.size, 0, none⟩ 1 [.int .i64 y.kind, .string Y, .slice vp y.keys.length vc, .slice vp' y.items.length vc'] rfl rfl (new_cells _ _ _) (fun u hu => by simp only [List.mem_cons, List.not_mem_nil, or_false] at hu; rcases hu with rfl | rfl | rfl | rfl <;> rfl) hLn (by simp; omega) ?_
         intro iv2 w7 hi2 hgi hat2
         have hd7 := (hgi.block W.heap.size (by simp; omega) (fun e => HCV6.out.ni e.symm)).trans ((((Below.refl V6.heap.size V6).alloc (Nat.le_refl _) (.cells #[.int .i64 y.kind, .string Y, .slice vp y.keys.length vc, .slice vp' y.items.length vc'] 25)).block W.heap.size (by omega)).trans HCV6.out.hd)
         obtain ⟨n0, n1, n2, n3⟩ := cells4 hd7
         have hfz7 : w7.frozen? ⟨W.heap.size, 3, none⟩ = false := by simp [World.frozen?, hd7]
         obtain ⟨pw, cw, rfl⟩ := row_form hi2))
     have hadd := CV.add (c := ⟨y, vp, vc, vp', vc'⟩) HC.out (World.grownBy.refl wr none) (gb_below' hb6) ((gb_below' hv6).trans (World.grownBy_alloc V6 (.cells #[.int .i64 y.kind, .string Y, .slice vp y.keys.length vc, .slice vp' y.items.length vc'] 25) none)) hgi hat2 (by show w7.ownsRow _ _ _ _ _ (rowC L ++ [_, _, _, _]); rw [HY.out]; exact hi2) ⟨HKP.out, HYL.out⟩
     go_roundw
     case rel => exact ⟨i + 1, L ++ [⟨y, vp, vc, vp', vc'⟩], _, by go_num, by omega, by rw [List.map_append, HL.out, List.take_add_one, HYI.out]; rfl, hadd.1, below_fr hB (Nat.le_refl _) hadd.2 (fun b hb => by
      rcases hb with rfl | hb
      · exact HC.out.vB
      · exact (row_lt HC.out.ri hb).1)⟩
     case measure => simp [RowKit.intOf]; omega
   · have hii : i = it.length := by omega
     subst hii
     rw [List.take_length] at hL
     obtain ⟨o0, o1, o2, o3⟩ := cells4 hC.hd
     have hbz : JBox wr (w'.heap.size + 1) := HJZ.out.same (hB.block _ HJZ.out.lt)
     have HC := Lib.hid hC
     have HL := Lib.hid hL
     have HBB := Lib.hid hbz
     clear hC hL hbz
     go_wp2_with (first | (refine store_val rfl (.tmp 2) (.tmp 36) rfl (w'.heap.size + 1) rfl (.int .i64 k) (.string S) (.slice pv ks.length cv) (.slice pi L.length ci) rfl rfl HBB.out (fun V hV hgV _ => ?_)))
     refine bodyPost_ret (ret_val Tryz.results16 rfl hV) rfl ?_
     exact clone_end HC.out HL.out HSS.out HSM.out HBW.out hB (by have := HZ2.out; omega) (by omega) hgV
theorem copy_is {w : World} {x : JV} {S : ByteArray} {kp ip : Option Addr} {kc ic : Nat} (h : KI w x kp kc ip ic) (hwt : x.wt ≤ 1000000) (hsl : x.str.length ≤ maxLen) (hS : (⟨x.str.toArray⟩ : ByteArray) = S) : ∀ w', Below w.heap.size w w' →
 Calls Tryz.prog 16 #[.agg #[.int .i64 x.kind, .string S, .slice kp x.keys.length kc, .slice ip x.items.length ic]] w' fun e w'' => ∃ kp kc ip ic, e = .returned (.agg #[.int .i64 x.kind, .string S, .slice kp x.keys.length kc, .slice ip x.items.length ic]) ∧ KP w'' (w'.heap.size ≤ ·) x kp kc ip ic ∧ Below w'.heap.size w' w'' := fun w' hb => by
 have h1 := rcopy_any h hwt hsl w' hb
 unfold jval at h1
 rw [hS] at h1
 refine h1.mono ?_
 rintro e w'' hcl
 exact CL.cells hS hcl
end Go.Proofs.Jt
