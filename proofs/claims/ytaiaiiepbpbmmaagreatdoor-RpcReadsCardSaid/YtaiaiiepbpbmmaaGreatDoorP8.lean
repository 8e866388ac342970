/- rpc: the law's small functions: seven, few, alike, works. Printed by gen_p8.py. -/
import Derived.Test.YtaiaiiepbpbmmaaGreatDoorP7
namespace Go.Proofs.Rp
open Go.RowKit Go.Maps Go.Lib Go.Proofs.Utf Go.Proofs.Jt Go.Proofs

theorem ret_id1 {fn : Func} {p : Tmp} (h : fn.results = #[.cell p 57]) {tmps : Array Value} {w : World} {g : Nat} (hp : tmps.getD p undef = .pointer (some ⟨g, 0, none⟩)) {v0 v1 v2 : Value} (hg : w.heap[g]? = some (.cells #[v0, v1, v2] 57 (0, 0))) :
 (results fn tmps).run Tryz.prog w = .ok (.agg #[v0, v1, v2]) w := results_cell_row h tmps w g 57 _ _ _ hp hg Tryz.underlying57 rfl (by kernel_rfl)
set_option maxRecDepth 100000 in
theorem seven_any (w : World) : Calls Tryz.prog 50 #[] w fun e w' => e = .returned (.agg #[.int .i64 1, .int .i64 7, .string ⟨#[]⟩]) ∧ Below w.heap.size w w' := by
 obtain ⟨W, hW⟩ : ∃ W, w.alloc (.cells #[.int .i64 0, .int .i64 0, .string ⟨#[]⟩] 57) = W := ⟨_, rfl⟩
 have bW := alloc_b hW
 have hI : IBox W w.heap.size := by rw [← hW]; exact IBox.alloc _ _ _ _
 have HI := Lib.hid hI
 have HB := Lib.hid bW
 clear hI bW
 go_enter Tryz.func50, Tryz.ntmps50
 go_wp2_with (first
  | (refine store_id rfl (.tmp 0) (.tmp 1) rfl w.heap.size rfl (.int .i64 1) (.int .i64 7) (.string ⟨#[]⟩) rfl rfl HI.out (fun V hV hgV _ => ?_)))
 refine bodyPost_ret (ret_id1 Tryz.results50 rfl hV) rfl ?_
 exact ⟨rfl, below_gbz HB.out (Nat.le_refl _) hgV⟩
set_option maxRecDepth 100000 in
theorem few38_any {w : World} {x : JV} {S : ByteArray} {kp ip : Option Addr} {kc ic : Nat} (hK : KI w x kp kc ip ic) (hs : x.str.length ≤ maxLen) (hS : (⟨x.str.toArray⟩ : ByteArray) = S) : ∀ w', Below w.heap.size w w' →
 Calls Tryz.prog 38 #[.agg #[.int .i64 x.kind, .string S, .slice kp x.keys.length kc, .slice ip x.items.length ic]] w' fun e w'' => e = .returned (.bool (decide (0 < x.sz 1500))) ∧ Below w'.heap.size w' w'' := fun w' hb => by
 obtain ⟨W, hW⟩ : ∃ W, w'.alloc (.cells #[.int .i64 x.kind, .string S, .slice kp x.keys.length kc, .slice ip x.items.length ic] 25) = W := ⟨_, rfl⟩
 have bW := alloc_b hW
 have hc := size_any (hK.stay hb) hs W bW 1500 (by omega) (by omega)
 obtain ⟨c0, c1, c2, c3⟩ := box_of hW W (Below.refl _ _)
 obtain ⟨R, hR⟩ : ∃ R, x.sz 1500 = R := ⟨_, rfl⟩
 unfold jval at hc
 rw [hR, hS] at hc
 rw [hR]
 have HB := Lib.hid bW
 clear hK hs hR bW hS hb
 go_enter Tryz.func38, Tryz.ntmps38
 go_wp2_with (first | (go_at_call 68; refine hc.mono ?_; rintro e w3 ⟨rfl, hb3⟩))
 go_ret
 exact ⟨rfl, HB.out.trans (hb3.mono HB.out.size)⟩
def litB : ByteArray := ⟨#[123, 34, 106, 115, 111, 110, 114, 112, 99, 34, 58, 34, 50, 46, 48, 34, 44, 34, 105, 100, 34, 58, 55, 44, 34, 109, 101, 116, 104, 111, 100, 34, 58, 34, 115, 104, 117, 116, 100, 111, 119, 110, 34, 125]⟩
def resB : ByteArray := ⟨#[123, 34, 106, 115, 111, 110, 114, 112, 99, 34, 58, 34, 50, 46, 48, 34, 44, 34, 105, 100, 34, 58, 55, 44, 34, 114, 101, 115, 117, 108, 116, 34, 58, 110, 117, 108, 108, 125]⟩
def shutK : List UInt8 := [115, 104, 117, 116, 100, 111, 119, 110]
def id7 : IdV := ⟨1, 7, []⟩
theorem itoa7 : itoa 7 = [55] := by
 rw [itoa, if_neg (by decide)]
 show decDigits 7 = [55]
 rw [decDigits, dif_pos (by decide)]
 rfl
theorem id7_val : id7.val = .mk 3 [55] [] [] := by
 show numJ 7 = _
 unfold numJ
 rw [itoa7]
theorem lit_read : readV litB.data.toList = (⟨1, id7, shutK, jn 0⟩, id7, 0) := by
 have h : putM ⟨1, id7, shutK, jn 0⟩ = (litB.data.toList, 0) := by
  unfold putM
  rw [if_pos (by decide)]
  show putV (.mk 6 [] [kVer, kId, kMethod] [txtV v20, id7.val, txtV shutK]) = _
  rw [id7_val]
  decide +kernel
 have := read_put (by decide) (by decide) h
 exact this
theorem lit_res : resV id7 (jn 0) = (resB.data.toList, 0) := by
 unfold resV
 rw [if_pos (by decide)]
 unfold resO
 rw [id7_val]
 decide +kernel
theorem row_of {w W : World} {o : Obj} (hW : w.alloc o = W) : ∀ V, Below W.heap.size W V → V.heap[w.heap.size]? = some o := fun V hb => by
 have h1 : W.heap[w.heap.size]? = some o := by rw [← hW]; exact World.alloc_heap_new w _
 exact (hb.block _ (ltS h1)).trans h1
def shutB : ByteArray := ⟨#[115, 104, 117, 116, 100, 111, 119, 110]⟩
theorem lit_any {w : World} (hT : Tabs w) (hE : ErrV w) : Calls Tryz.prog 35 #[.string litB] w fun e w' => (∃ kp kc ip ic, e = .returned (.tuple #[.agg #[.int .i64 1, .int .i64 1, .int .i64 7, .string ⟨#[]⟩, .string shutB, .int .i64 0, .string ⟨#[]⟩, .slice kp 0 kc, .slice ip 0 ic], .agg #[.int .i64 1, .int .i64 7, .string ⟨#[]⟩], .int .i64 0])) ∧ Below w.heap.size w w' := by
 have hr := read_any litB hT hE (by decide)
 rw [lit_read] at hr
 refine hr.mono ?_
 rintro e w' ⟨kp, kc, ip, ic, rfl, _, hb⟩
 exact ⟨⟨kp, kc, ip, ic, rfl⟩, hb⟩
theorem res7_any {w : World} (hT : Tabs w) (hTen : TenV w) : Calls Tryz.prog 43 #[.agg #[.int .i64 1, .int .i64 7, .string ⟨#[]⟩], .agg #[.int .i64 0, .string ⟨#[]⟩, .slice none 0 0, .slice none 0 0]] w fun e w' => e = .returned (.tuple #[.string resB, .int .i64 0]) ∧ Below w.heap.size w w' :=
 result_any id7 ⟨#[]⟩ rfl (by decide) (by decide) (by decide) hT hTen (v := jn 0) (T := ⟨#[]⟩) (ki_leaf rfl rfl) (by decide) rfl resB 0 lit_res
set_option maxRecDepth 100000 in
set_option maxHeartbeats 4000000 in
theorem works_any (w : World) (hT : Tabs w) (hE : ErrV w) (hTen : TenV w) : Calls Tryz.prog 34 #[] w fun e w' => e = .returned (.bool true) ∧ Below w.heap.size w w' := by
 have hr := lit_any hT hE
 have HT : Hid (∀ V, Below w.heap.size w V → Tabs V ∧ TenV V) := Lib.hid fun V hV => ⟨hT.below hV, hTen.below hV⟩
 have t1 : (resB.toList == [123, 34, 106, 115, 111, 110, 114, 112, 99, 34, 58, 34, 50, 46, 48, 34, 44, 34, 105, 100, 34, 58, 55, 44, 34, 114, 101, 115, 117, 108, 116, 34, 58, 110, 117, 108, 108, 125]) = true := by rw [ByteArray.toList_eq]; decide
 have t3 : (shutB.toList == [115, 104, 117, 116, 100, 111, 119, 110]) = true := by rw [ByteArray.toList_eq]; decide
 have hagg : ∀ (kp : Option Addr) (kc : Nat) (ip : Option Addr) (ic : Nat), (#[Value.int .i64 1, .int .i64 1, .int .i64 7, .string ⟨#[]⟩, .string shutB, .int .i64 0, .string ⟨#[]⟩, .slice kp 0 kc, .slice ip 0 ic] : Array Value).all (·.oneCell') = true := fun _ _ _ _ => by simp [Value.oneCell']
 clear hT hE hTen
 go_enter Tryz.func34, Tryz.ntmps34
 go_upto_region 3 with (first
  | (go_at_call 35; refine hr.mono ?_; rintro e w1 ⟨⟨kp, kc, ip, ic, rfl⟩, hb1⟩
     obtain ⟨U1, hU1⟩ : ∃ V, w1.alloc (.cells #[.int .i64 0, .int .i64 0, .int .i64 0, .string ⟨#[]⟩, .string ⟨#[]⟩, .int .i64 0, .string ⟨#[]⟩, .slice none 0 0, .slice none 0 0] 59) = V := ⟨_, rfl⟩
     have hz1 : U1.heap.size = w1.heap.size + 1 := (by rw [← hU1]; simp)
     obtain ⟨V0, hV0⟩ : ∃ V, U1.alloc (.cells #[.int .i64 0, .int .i64 0, .string ⟨#[]⟩] 57) = V := ⟨_, rfl⟩
     have u1 := alloc_b hU1
     have v0 := alloc_b hV0
     have hne : w1.heap.size ≠ w1.heap.size + 1 := (by omega)
     have hmz := row_of hU1 V0 v0
     have hiz := row_of hV0 V0 (Below.refl _ _)
     rw [hz1] at hiz
     have hb2 := Below.on hb1 (Below.on u1 v0))
  | (go_at_call 50; refine (seven_any _).mono ?_; rintro e w2 ⟨rfl, hb3⟩
     have h43 := res7_any (HT.out w2 (Below.on hb2e hb3)).1 (HT.out w2 (Below.on hb2e hb3)).2)
  | (go_at_call 43; refine h43.mono ?_; rintro e w3 ⟨rfl, hb4⟩)
  | (refine store_msg rfl (.tmp 1) (.tmp 8) rfl w1.heap.size rfl (.int .i64 1) (.int .i64 1) (.int .i64 7) (.string ⟨#[]⟩) (.string shutB) (.int .i64 0) (.string ⟨#[]⟩) (.slice kp 0 kc) (.slice ip 0 ic) rfl (hagg kp kc ip ic) ⟨_, _, _, _, _, _, _, _, _, hmz⟩ (fun V1 hV1 hgV1 _ => ?_)
     have hiz1 := (hgV1.block (w1.heap.size + 1) (ltS hiz) (fun e => hne (Option.some.inj e).symm)).trans hiz
     have hb21 := below_gbz hb2 hb1.size hgV1)
  | (refine store_id rfl (.tmp 2) (.tmp 9) rfl (w1.heap.size + 1) rfl (.int .i64 1) (.int .i64 7) (.string ⟨#[]⟩) rfl rfl ⟨_, _, _, hiz1⟩ (fun V2 hV2 hgV2 _ => ?_)
     have hm2 := (hgV2.block w1.heap.size (ltS hV1) (fun e => hne (Option.some.inj e))).trans hV1
     have hb2e := below_gbz hb21 (Nat.le_trans hb1.size (Nat.le_succ _)) hgV2))
 have b3 := Below.on hb3 hb4
 have HS8 : Hid (∀ V, Below w3.heap.size w3 V → (V.cell? ⟨w1.heap.size, 0, none⟩ = some (.int .i64 1) ∧ V.cell? ⟨w1.heap.size, 1, none⟩ = some (.int .i64 1) ∧ V.cell? ⟨w1.heap.size, 2, none⟩ = some (.int .i64 7) ∧ V.cell? ⟨w1.heap.size, 3, none⟩ = some (.string ⟨#[]⟩) ∧ V.cell? ⟨w1.heap.size, 4, none⟩ = some (.string shutB) ∧ V.cell? ⟨w1.heap.size + 1, 0, none⟩ = some (.int .i64 1) ∧ V.cell? ⟨w1.heap.size + 1, 1, none⟩ = some (.int .i64 7) ∧ V.cell? ⟨w1.heap.size + 1, 2, none⟩ = some (.string ⟨#[]⟩))) := Lib.hid fun V hV => by
  obtain ⟨m0, m1, m2, m3, m4, _, _, _, _⟩ := cells9 (((Below.on b3 hV).block _ (ltS hm2)).trans hm2)
  obtain ⟨i0, i1, i2, _⟩ := cells3 (((Below.on b3 hV).block _ (ltS hV2)).trans hV2)
  exact ⟨m0, m1, m2, m3, m4, i0, i1, i2⟩
 have HD := HS8.out _ (Below.refl _ _).drew
 have hb0 : Below w3.heap.size w3 w3.drew := (Below.refl _ _).drew
 have HBE := Lib.hid (Below.on hb2e b3)
 clear hm2 hV2 hiz1 hV1 hmz hiz h43
 go_region_held3 (fun V => V.cell? ⟨w1.heap.size, 0, none⟩ = some (.int .i64 1) ∧ V.cell? ⟨w1.heap.size, 1, none⟩ = some (.int .i64 1) ∧ V.cell? ⟨w1.heap.size, 2, none⟩ = some (.int .i64 7) ∧ V.cell? ⟨w1.heap.size, 3, none⟩ = some (.string ⟨#[]⟩) ∧ V.cell? ⟨w1.heap.size, 4, none⟩ = some (.string shutB) ∧ V.cell? ⟨w1.heap.size + 1, 0, none⟩ = some (.int .i64 1) ∧ V.cell? ⟨w1.heap.size + 1, 1, none⟩ = some (.int .i64 7) ∧ V.cell? ⟨w1.heap.size + 1, 2, none⟩ = some (.string ⟨#[]⟩)) (first | exact HS8.out _ (by assumption)) (first
  | (go_at_call 50; refine (seven_any _).mono ?_; rintro e w4 ⟨rfl, hb5⟩; have hb0 := Below.on hb0 hb5))
 go_wp2_with fail
 go_ret
 exact ⟨rfl, Below.on HBE.out hb0⟩
end Go.Proofs.Rp
