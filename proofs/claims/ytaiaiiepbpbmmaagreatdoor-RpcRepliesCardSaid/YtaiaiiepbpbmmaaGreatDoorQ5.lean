/- emendref24.Fail. Printed by gen_q5.py. -/
import Derived.Test.YtaiaiiepbpbmmaaGreatDoorQY
namespace Go.Proofs.Rp
open Go.RowKit Go.Maps Go.Lib Go.Proofs.Utf Go.Proofs.Jt Go.Proofs

abbrev rfo0 : Oper := { dst := some 34, op := Op.call { callee := Callee.value (Operand.func 103), args := #[], argTypes := #[] }, type := 25, pos := "ref.go:183", after := #[], guard := none }
abbrev rfo1 : Oper := { dst := some 35, op := Op.load 62 (Operand.tmp 3), type := 62, pos := "ref.go:183", after := #[], guard := none }
abbrev rfo2 : Oper := { dst := some 36, op := Op.call { callee := Callee.value (Operand.func 105), args := #[Operand.tmp 35], argTypes := #[62] }, type := 25, pos := "ref.go:183", after := #[eDa 1, eCh 0], guard := none }
abbrev rfo3 : Oper := { dst := some 37, op := Op.call { callee := Callee.value (Operand.func 104), args := #[Operand.tmp 34, Operand.const (Value.string { data := #[105, 100] }), Operand.tmp 36], argTypes := #[25, 9, 25] }, type := 25, pos := "ref.go:183", after := #[eDa 0, eDa 2, eCh 2], guard := none }
abbrev rfo4 : Oper := { dst := some 9, op := Op.alloc 25, type := 0, pos := "ref.go:183", after := #[], guard := none }
abbrev rfo5 : Oper := { dst := none, op := Op.store 25 (Operand.tmp 9) (Operand.tmp 37), type := 0, pos := "ref.go:183", after := #[eDa 4, eDa 3, eCh 3, ePh 0, ePh 1, ePh 2, ePh 3, ePh 4], guard := none }
def rfP (i : IdV) (S VS : ByteArray) (zi : Nat) (wz : World) (u0 u1 u2 u4 u5 u6 u7 u8 u10 u11 u12 u13 u14 u15 u16 u17 u18 u19 u20 u21 u22 u23 u24 u25 u26 u27 u28 u29 u30 u31 u32 u33 u38 u39 u40 u41 u42 u43 : Value) : Exit → Act → World → Prop
 | .normal, a', v => ∃ (z : Nat) (kp : Option Addr) (kc : Nat) (ip : Option Addr) (ic : Nat) (xa xd : Value), v.heap[z]? = some (.cells #[.int .i64 6, .string ⟨#[]⟩, .slice kp 2 kc, .slice ip 2 ic] 25 (0, 0)) ∧ OR wz.heap.size v [kVer, kId] [leafC (txtV v20), leafC i.val] kp kc ip ic ∧ Below wz.heap.size wz v ∧ wz.heap.size ≤ z ∧
  a' = { tmps := #[u0, u1, u2, .pointer (some ⟨zi, 0, none⟩), u4, u5, u6, u7, u8, .pointer (some ⟨z, 0, none⟩), u10, u11, u12, u13, u14, u15, u16, u17, u18, u19, u20, u21, u22, u23, u24, u25, u26, u27, u28, u29, u30, u31, u32, u33, xa, .agg #[.int .i64 i.k, .int .i64 i.n, .string S], .agg #[.int .i64 i.val.kind, .string VS, .slice none 0 0, .slice none 0 0], xd, u38, u39, u40, u41, u42, u43], defers := [] }
 | _, _, _ => False
set_option maxRecDepth 100000 in
set_option maxHeartbeats 16000000 in
theorem rfR (i : IdV) (S VS : ByteArray) (hS : (⟨i.s.toArray⟩ : ByteArray) = S) (hVS : (⟨i.val.str.toArray⟩ : ByteArray) = VS) (h0 : -9223372036854775808 ≤ i.n) (h1 : i.n ≤ 9223372036854775807) (zi : Nat) (wz : World) (hzi : wz.heap[zi]? = some (.cells #[.int .i64 i.k, .int .i64 i.n, .string S] 62 (0, 0))) (u0 u1 u2 u4 u5 u6 u7 u8 u9 u10 u11 u12 u13 u14 u15 u16 u17 u18 u19 u20 u21 u22 u23 u24 u25 u26 u27 u28 u29 u30 u31 u32 u33 u34 u35 u36 u37 u38 u39 u40 u41 u42 u43 : Value) :
 Code.wp Tryz.prog (Code.region 8 #[rfo0, rfo1, rfo2, rfo3, rfo4, rfo5] true) (rfP i S VS zi wz u0 u1 u2 u4 u5 u6 u7 u8 u10 u11 u12 u13 u14 u15 u16 u17 u18 u19 u20 u21 u22 u23 u24 u25 u26 u27 u28 u29 u30 u31 u32 u33 u38 u39 u40 u41 u42 u43) { tmps := #[u0, u1, u2, .pointer (some ⟨zi, 0, none⟩), u4, u5, u6, u7, u8, u9, u10, u11, u12, u13, u14, u15, u16, u17, u18, u19, u20, u21, u22, u23, u24, u25, u26, u27, u28, u29, u30, u31, u32, u33, u34, u35, u36, u37, u38, u39, u40, u41, u42, u43], defers := [] } wz := by
 obtain ⟨hvk, hvi⟩ := val_nil i
 have HS : Hid (∀ V, Below wz.heap.size wz V → V.heap[zi]? = some (.cells #[.int .i64 i.k, .int .i64 i.n, .string S] 62 (0, 0))) := Lib.hid fun V hV => (hV.block _ (ltS hzi)).trans hzi
 have HC := Lib.hid (And.intro hS (And.intro hVS (And.intro h0 (And.intro h1 (And.intro hvk hvi)))))
 have hB : Below wz.heap.size wz wz.drew := (Below.refl _ _).drew
 clear hS hVS h0 h1 hvk hvi hzi
 refine wp_region_held_drew (S := fun V => V.heap[zi]? = some (.cells #[.int .i64 i.k, .int .i64 i.n, .string S] 62 (0, 0))) (by kernel_rfl) (HS.out _ hB) (fun hHeld => ?_)
 refine wpAnyH_take (i := 1) (oi := rfo1) (v := ?_) rfl (by kernel_rfl) (by kernel_rfl) (by kernel_rfl) (fun _ _ _ h => h) (Or.inl ⟨by rfl, ?_⟩) (by assumption) ?_
 rotate_left
 · unfold rfo1; intro wx hS; obtain ⟨i0, i1, i2, _⟩ := cells3 hS; go_simp; with_reducible rfl
 try simp only [Act.put, aSA, aSZ, aSS]
 refine wpAnyH_ready (rs := [0, 4]) (by kernel_rfl) (by simp) (AllReadyH.cons (o := rfo0) rfl (fun K hK => ?_) (AllReadyH.cons (o := rfo4) rfl (fun K hK => ?_) AllReadyH.nil))
 · unfold rfo0
   rw [if_pos (by rfl)]
   go_simp
   go_at_call 103
   refine (begun_any _).mono ?_
   rintro e wa ⟨p1, q1, p2, q2, rfl, hor, hb⟩
   have hn := hB.size
   replace hor := hor.mono hn
   replace hB := Below.on hB hb
   clear hn hb
   refine hK.out _ _ (HS.out _ hB) (fun _ => ?_)
   clear hK K
   try simp only [Act.put, aSA, aSZ, aSS]
   refine wpAnyH_ready (rs := [2, 4]) (by kernel_rfl) (by simp) (AllReadyH.cons (o := rfo2) rfl (fun K hK => ?_) (AllReadyH.cons (o := rfo4) rfl (fun K hK => ?_) AllReadyH.nil))
   · unfold rfo2
     rw [if_pos (by rfl)]
     go_simp
     go_at_call 105
     refine (rvalue24_any i S VS HC.out.1 HC.out.2.1 HC.out.2.2.1 HC.out.2.2.2.1 _).mono ?_
     rintro e wb ⟨rfl, hb⟩
     replace hor := hor.below hb
     replace hB := Below.on hB hb
     clear hb
     refine hK.out _ _ (HS.out _ hB) (fun _ => ?_)
     clear hK K
     try simp only [Act.put, aSA, aSZ, aSS]
     refine wpAnyH_ready (rs := [3, 4]) (by kernel_rfl) (by simp) (AllReadyH.cons (o := rfo3) rfl (fun K hK => ?_) (AllReadyH.cons (o := rfo4) rfl (fun K hK => ?_) AllReadyH.nil))
     · unfold rfo3
       rw [if_pos (by rfl)]
       go_simp
       go_at_call 104
       refine (with_leaf hor ⟨#[105, 100]⟩ i.val VS HC.out.2.1 HC.out.2.2.2.2.1 HC.out.2.2.2.2.2 1 2 1 2 rfl rfl rfl rfl (by decide) (by decide)).mono ?_
       rintro e wc ⟨p3, q3, p4, q4, rfl, hor2, hb, hap⟩
       replace hB := hB.trans hb
       clear hb hap hor
       refine hK.out _ _ (HS.out _ hB) (fun _ => ?_)
       clear hK K
       try simp only [Act.put, aSA, aSZ, aSS]
       refine wpAnyH_ready (rs := [4]) (by kernel_rfl) (by simp) (AllReadyH.cons (o := rfo4) rfl (fun K hK => ?_) AllReadyH.nil)
       unfold rfo4
       rw [if_pos (by rfl)]
       go_simp
       have ba : Below wc.heap.size wc (wc.alloc (.cells #[.int .i64 0, .string ⟨#[]⟩, .slice none 0 0, .slice none 0 0] 25)) := (Below.refl _ _).alloc (Nat.le_refl _) _
       have hJ : JBox (wc.alloc (.cells #[.int .i64 0, .string ⟨#[]⟩, .slice none 0 0, .slice none 0 0] 25)) wc.heap.size := JBox.alloc _ _ _ _ _
       have hzl := hJ.lt
       have hzn : wz.heap.size ≤ wc.heap.size := hB.size
       have hza2 : Ap wc.heap.size p3 p4 := hor2.ap (.inr (Nat.le_refl _))
       replace hor2 := hor2.below ba
       replace hB := Below.on hB ba
       clear ba
       refine hK.out _ _ (HS.out _ hB) (fun _ => ?_)
       clear hK K
       try simp only [Act.put, aSA, aSZ, aSS]
       refine wpAnyH_ready (rs := [5]) (by kernel_rfl) (by simp) (AllReadyH.cons (o := rfo5) rfl (fun K hK => ?_) AllReadyH.nil)
       unfold rfo5
       rw [if_pos (by rfl)]
       refine store_val2 (.tmp 9) (.tmp 37) rfl _ rfl (.int .i64 6) (.string ⟨#[]⟩) (.slice p3 2 q3) (.slice p4 2 q4) rfl (by simp [Value.oneCell']) hJ (fun V hV hgV _ => ?_)
       have hor3 : OR wz.heap.size V [kVer, kId] [leafC (txtV v20), leafC i.val] p3 q3 p4 q4 := hor2.set hgV hza2
       replace hB : Below wz.heap.size wz V := below_gbz hB hzn hgV
       refine hK.out _ _ (HS.out _ hB) (fun _ => ?_)
       clear hK K
       try simp only [Act.put]
       refine wpAnyH_done (by kernel_rfl) ?_ _
       exact ⟨_, p3, q3, p4, q4, _, _, hV, hor3, hB, hzn, rfl⟩
     · unfold rfo4
       rw [if_pos (by rfl)]
       go_simp
       have ba : Below wb.heap.size wb (wb.alloc (.cells #[.int .i64 0, .string ⟨#[]⟩, .slice none 0 0, .slice none 0 0] 25)) := (Below.refl _ _).alloc (Nat.le_refl _) _
       have hJ : JBox (wb.alloc (.cells #[.int .i64 0, .string ⟨#[]⟩, .slice none 0 0, .slice none 0 0] 25)) wb.heap.size := JBox.alloc _ _ _ _ _
       have hzl := hJ.lt
       have hzn : wz.heap.size ≤ wb.heap.size := hB.size
       have hza : Ap wb.heap.size p1 p2 := hor.ap (.inr (Nat.le_refl _))
       replace hor := hor.below ba
       replace hB := Below.on hB ba
       clear ba
       refine hK.out _ _ (HS.out _ hB) (fun _ => ?_)
       clear hK K
       try simp only [Act.put, aSA, aSZ, aSS]
       refine wpAnyH_ready (rs := [3]) (by kernel_rfl) (by simp) (AllReadyH.cons (o := rfo3) rfl (fun K hK => ?_) AllReadyH.nil)
       unfold rfo3
       rw [if_pos (by rfl)]
       go_simp
       go_at_call 104
       refine (with_leaf hor ⟨#[105, 100]⟩ i.val VS HC.out.2.1 HC.out.2.2.2.2.1 HC.out.2.2.2.2.2 1 2 1 2 rfl rfl rfl rfl (by decide) (by decide)).mono ?_
       rintro e wc ⟨p3, q3, p4, q4, rfl, hor2, hb, hap⟩
       obtain ⟨hzb, hza2⟩ := hap _ hzl hza
       replace hJ := hJ.same hzb
       replace hzl := hJ.lt
       replace hB := hB.trans hb
       clear hb hap hor
       refine hK.out _ _ (HS.out _ hB) (fun _ => ?_)
       clear hK K
       try simp only [Act.put, aSA, aSZ, aSS]
       refine wpAnyH_ready (rs := [5]) (by kernel_rfl) (by simp) (AllReadyH.cons (o := rfo5) rfl (fun K hK => ?_) AllReadyH.nil)
       unfold rfo5
       rw [if_pos (by rfl)]
       refine store_val2 (.tmp 9) (.tmp 37) rfl _ rfl (.int .i64 6) (.string ⟨#[]⟩) (.slice p3 2 q3) (.slice p4 2 q4) rfl (by simp [Value.oneCell']) hJ (fun V hV hgV _ => ?_)
       have hor3 : OR wz.heap.size V [kVer, kId] [leafC (txtV v20), leafC i.val] p3 q3 p4 q4 := hor2.set hgV hza2
       replace hB : Below wz.heap.size wz V := below_gbz hB hzn hgV
       refine hK.out _ _ (HS.out _ hB) (fun _ => ?_)
       clear hK K
       try simp only [Act.put]
       refine wpAnyH_done (by kernel_rfl) ?_ _
       exact ⟨_, p3, q3, p4, q4, _, _, hV, hor3, hB, hzn, rfl⟩
   · unfold rfo4
     rw [if_pos (by rfl)]
     go_simp
     have ba : Below wa.heap.size wa (wa.alloc (.cells #[.int .i64 0, .string ⟨#[]⟩, .slice none 0 0, .slice none 0 0] 25)) := (Below.refl _ _).alloc (Nat.le_refl _) _
     have hJ : JBox (wa.alloc (.cells #[.int .i64 0, .string ⟨#[]⟩, .slice none 0 0, .slice none 0 0] 25)) wa.heap.size := JBox.alloc _ _ _ _ _
     have hzl := hJ.lt
     have hzn : wz.heap.size ≤ wa.heap.size := hB.size
     have hza : Ap wa.heap.size p1 p2 := hor.ap (.inr (Nat.le_refl _))
     replace hor := hor.below ba
     replace hB := Below.on hB ba
     clear ba
     refine hK.out _ _ (HS.out _ hB) (fun _ => ?_)
     clear hK K
     try simp only [Act.put, aSA, aSZ, aSS]
     refine wpAnyH_ready (rs := [2]) (by kernel_rfl) (by simp) (AllReadyH.cons (o := rfo2) rfl (fun K hK => ?_) AllReadyH.nil)
     unfold rfo2
     rw [if_pos (by rfl)]
     go_simp
     go_at_call 105
     refine (rvalue24_any i S VS HC.out.1 HC.out.2.1 HC.out.2.2.1 HC.out.2.2.2.1 _).mono ?_
     rintro e wb ⟨rfl, hb⟩
     replace hJ := hJ.same (hb.block _ hzl)
     replace hzl := Nat.lt_of_lt_of_le hzl hb.size
     replace hor := hor.below hb
     replace hB := Below.on hB hb
     clear hb
     refine hK.out _ _ (HS.out _ hB) (fun _ => ?_)
     clear hK K
     try simp only [Act.put, aSA, aSZ, aSS]
     refine wpAnyH_ready (rs := [3]) (by kernel_rfl) (by simp) (AllReadyH.cons (o := rfo3) rfl (fun K hK => ?_) AllReadyH.nil)
     unfold rfo3
     rw [if_pos (by rfl)]
     go_simp
     go_at_call 104
     refine (with_leaf hor ⟨#[105, 100]⟩ i.val VS HC.out.2.1 HC.out.2.2.2.2.1 HC.out.2.2.2.2.2 1 2 1 2 rfl rfl rfl rfl (by decide) (by decide)).mono ?_
     rintro e wc ⟨p3, q3, p4, q4, rfl, hor2, hb, hap⟩
     obtain ⟨hzb, hza2⟩ := hap _ hzl hza
     replace hJ := hJ.same hzb
     replace hzl := hJ.lt
     replace hB := hB.trans hb
     clear hb hap hor
     refine hK.out _ _ (HS.out _ hB) (fun _ => ?_)
     clear hK K
     try simp only [Act.put, aSA, aSZ, aSS]
     refine wpAnyH_ready (rs := [5]) (by kernel_rfl) (by simp) (AllReadyH.cons (o := rfo5) rfl (fun K hK => ?_) AllReadyH.nil)
     unfold rfo5
     rw [if_pos (by rfl)]
     refine store_val2 (.tmp 9) (.tmp 37) rfl _ rfl (.int .i64 6) (.string ⟨#[]⟩) (.slice p3 2 q3) (.slice p4 2 q4) rfl (by simp [Value.oneCell']) hJ (fun V hV hgV _ => ?_)
     have hor3 : OR wz.heap.size V [kVer, kId] [leafC (txtV v20), leafC i.val] p3 q3 p4 q4 := hor2.set hgV hza2
     replace hB : Below wz.heap.size wz V := below_gbz hB hzn hgV
     refine hK.out _ _ (HS.out _ hB) (fun _ => ?_)
     clear hK K
     try simp only [Act.put]
     refine wpAnyH_done (by kernel_rfl) ?_ _
     exact ⟨_, p3, q3, p4, q4, _, _, hV, hor3, hB, hzn, rfl⟩
 · unfold rfo4
   rw [if_pos (by rfl)]
   go_simp
   have ba : Below wz.drew.heap.size wz.drew (wz.drew.alloc (.cells #[.int .i64 0, .string ⟨#[]⟩, .slice none 0 0, .slice none 0 0] 25)) := (Below.refl _ _).alloc (Nat.le_refl _) _
   have hJ : JBox (wz.drew.alloc (.cells #[.int .i64 0, .string ⟨#[]⟩, .slice none 0 0, .slice none 0 0] 25)) wz.drew.heap.size := JBox.alloc _ _ _ _ _
   have hzl := hJ.lt
   have hzn : wz.heap.size ≤ wz.drew.heap.size := hB.size
   replace hB := Below.on hB ba
   clear ba
   refine hK.out _ _ (HS.out _ hB) (fun _ => ?_)
   clear hK K
   try simp only [Act.put, aSA, aSZ, aSS]
   refine wpAnyH_ready (rs := [0]) (by kernel_rfl) (by simp) (AllReadyH.cons (o := rfo0) rfl (fun K hK => ?_) AllReadyH.nil)
   unfold rfo0
   rw [if_pos (by rfl)]
   go_simp
   go_at_call 103
   refine (begun_any _).mono ?_
   rintro e wa ⟨p1, q1, p2, q2, rfl, hor, hb⟩
   have hn := hB.size
   have hza : Ap _ p1 p2 := hor.ap (.inl hzl)
   replace hJ := hJ.same (hb.block _ hzl)
   replace hzl := Nat.lt_of_lt_of_le hzl hb.size
   replace hor := hor.mono hn
   replace hB := Below.on hB hb
   clear hn hb
   refine hK.out _ _ (HS.out _ hB) (fun _ => ?_)
   clear hK K
   try simp only [Act.put, aSA, aSZ, aSS]
   refine wpAnyH_ready (rs := [2]) (by kernel_rfl) (by simp) (AllReadyH.cons (o := rfo2) rfl (fun K hK => ?_) AllReadyH.nil)
   unfold rfo2
   rw [if_pos (by rfl)]
   go_simp
   go_at_call 105
   refine (rvalue24_any i S VS HC.out.1 HC.out.2.1 HC.out.2.2.1 HC.out.2.2.2.1 _).mono ?_
   rintro e wb ⟨rfl, hb⟩
   replace hJ := hJ.same (hb.block _ hzl)
   replace hzl := Nat.lt_of_lt_of_le hzl hb.size
   replace hor := hor.below hb
   replace hB := Below.on hB hb
   clear hb
   refine hK.out _ _ (HS.out _ hB) (fun _ => ?_)
   clear hK K
   try simp only [Act.put, aSA, aSZ, aSS]
   refine wpAnyH_ready (rs := [3]) (by kernel_rfl) (by simp) (AllReadyH.cons (o := rfo3) rfl (fun K hK => ?_) AllReadyH.nil)
   unfold rfo3
   rw [if_pos (by rfl)]
   go_simp
   go_at_call 104
   refine (with_leaf hor ⟨#[105, 100]⟩ i.val VS HC.out.2.1 HC.out.2.2.2.2.1 HC.out.2.2.2.2.2 1 2 1 2 rfl rfl rfl rfl (by decide) (by decide)).mono ?_
   rintro e wc ⟨p3, q3, p4, q4, rfl, hor2, hb, hap⟩
   obtain ⟨hzb, hza2⟩ := hap _ hzl hza
   replace hJ := hJ.same hzb
   replace hzl := hJ.lt
   replace hB := hB.trans hb
   clear hb hap hor
   refine hK.out _ _ (HS.out _ hB) (fun _ => ?_)
   clear hK K
   try simp only [Act.put, aSA, aSZ, aSS]
   refine wpAnyH_ready (rs := [5]) (by kernel_rfl) (by simp) (AllReadyH.cons (o := rfo5) rfl (fun K hK => ?_) AllReadyH.nil)
   unfold rfo5
   rw [if_pos (by rfl)]
   refine store_val2 (.tmp 9) (.tmp 37) rfl _ rfl (.int .i64 6) (.string ⟨#[]⟩) (.slice p3 2 q3) (.slice p4 2 q4) rfl (by simp [Value.oneCell']) hJ (fun V hV hgV _ => ?_)
   have hor3 : OR wz.heap.size V [kVer, kId] [leafC (txtV v20), leafC i.val] p3 q3 p4 q4 := hor2.set hgV hza2
   replace hB : Below wz.heap.size wz V := below_gbz hB hzn hgV
   refine hK.out _ _ (HS.out _ hB) (fun _ => ?_)
   clear hK K
   try simp only [Act.put]
   refine wpAnyH_done (by kernel_rfl) ?_ _
   exact ⟨_, p3, q3, p4, q4, _, _, hV, hor3, hB, hzn, rfl⟩
set_option maxRecDepth 100000 in
set_option maxHeartbeats 16000000 in
theorem rfail_any {w : World} (i : IdV) (S : ByteArray) (hS : (⟨i.s.toArray⟩ : ByteArray) = S) (h0 : -9223372036854775808 ≤ i.n) (h1 : i.n ≤ 9223372036854775807) (his : i.s.length ≤ 10000)
 (c : Int) (hc0 : -9223372036854775808 ≤ c) (hc1 : c ≤ 9223372036854775807)
 {v : JV} {T : ByteArray} {kp ip : Option Addr} {kc ic : Nat} (hK : KI w v kp kc ip ic) (hwt : v.wt ≤ 10000) (hT2 : (⟨v.str.toArray⟩ : ByteArray) = T) (X : ByteArray) (n : Nat) (hr : failV i c v = (X.data.toList, n)) :
 Calls Tryz.prog 46 #[.agg #[.int .i64 i.k, .int .i64 i.n, .string S], .int .i64 c, .agg #[.int .i64 v.kind, .string T, .slice kp v.keys.length kc, .slice ip v.items.length ic]] w fun e w' => e = .returned (.tuple #[.string X, .int .i64 n]) ∧ Below w.heap.size w w' := by
 obtain ⟨W1, hW1⟩ : ∃ W, w.alloc (.cells #[.int .i64 i.k, .int .i64 i.n, .string S] 62) = W := ⟨_, rfl⟩
 obtain ⟨W, hW⟩ : ∃ W, W1.alloc (.cells #[.int .i64 v.kind, .string T, .slice kp v.keys.length kc, .slice ip v.items.length ic] 25) = W := ⟨_, rfl⟩
 have bW1 := alloc_b hW1
 have bW2 := alloc_b hW
 have bW := Below.on bW1 bW2
 have hz1 : W1.heap.size = w.heap.size + 1 := by rw [← hW1]; simp
 have hzW : W.heap.size = w.heap.size + 2 := by rw [← hW]; simp; omega
 have hri : ∀ V, Below W.heap.size W V → _ := fun V hV => row_of hW1 V (Below.on bW2 hV)
 have hbv := box_of hW
 rw [hz1] at hbv
 have HI := Lib.hid hri
 have HV := Lib.hid hbv
 have HK : Hid (∀ V, Below W.heap.size W V → KI V v kp kc ip ic) := Lib.hid fun V hV => hK.stay (Below.on bW hV)
 have HBW := Lib.hid bW
 have HZW := Lib.hid hzW
 subst hW1
 obtain ⟨c0, c1, c2, _⟩ := cells3 (hri W (Below.refl _ _))
 have hmay := rmay_any i S hS W
 obtain ⟨bm, hbm⟩ : ∃ b, i.may = b := ⟨_, rfl⟩
 rw [hbm] at hmay
 obtain ⟨WB, hWB⟩ : ∃ B : ByteArray, (⟨(wordsV c).toArray⟩ : ByteArray) = B := ⟨_, rfl⟩
 obtain ⟨VS, hVS⟩ : ∃ B : ByteArray, (⟨i.val.str.toArray⟩ : ByteArray) = B := ⟨_, rfl⟩
 obtain ⟨CN, hCN⟩ : ∃ B : ByteArray, (⟨(itoa c).toArray⟩ : ByteArray) = B := ⟨_, rfl⟩
 obtain ⟨hvk, hvi⟩ := val_nil i
 have HS := Lib.hid (And.intro hS (And.intro hVS hT2))
 have HC := Lib.hid (And.intro hCN hWB)
 have HCB := Lib.hid (And.intro hc0 hc1)
 have HN := Lib.hid (And.intro hvk hvi)
 have HBD := Lib.hid (And.intro h0 h1)
 have hwl := wordsV_len c
 have HWT : Hid ((failO i c v).wt ≤ 100000) := Lib.hid (by
  have h2 := (val_wt h0 h1).1
  have h3 : (txtV (wordsV c)).wt ≤ 100 + (wordsV c).length := (val_wt (i := ⟨2, 0, wordsV c⟩) (by show (-9223372036854775808 : Int) ≤ 0; decide) (by show (0 : Int) ≤ _; decide)).1
  have h4 : (numJ c).wt ≤ 100 + 0 := (val_wt (i := ⟨1, c, []⟩) hc0 hc1).1
  have h5 : (txtV v20).wt = 4 := rfl
  unfold failO faultO
  rw [JV.wt]
  simp only [keysW, wtL, kVer, kId, kError, List.length_cons, List.length_nil]
  rw [JV.wt]
  split <;> simp only [keysW, wtL, kCode, kMessage, kData, List.length_cons, List.length_nil] <;> omega)
 have HL : Hid ((numJ c).str.length ≤ maxLen ∧ (wordsV c).length ≤ maxLen ∧ i.val.str.length ≤ maxLen ∧ v.str.length ≤ maxLen) := Lib.hid (by
  have h2 := (val_wt h0 h1).2
  have h3 : (itoa c).length ≤ 21 := itoa_len hc0 hc1
  have h4 := str_wt v
  have h5 : (numJ c).str.length = (itoa c).length := rfl
  unfold maxLen
  omega)
 have HR := Lib.hid (And.intro hbm hr)
 have hwd : ∀ V, Calls Tryz.prog 48 #[.int .i64 c] V fun e w' => e = .returned (.string WB) ∧ Below V.heap.size V w' := fun V => rwords_any c WB hWB V
 rcases nilS hWB with ⟨hw0, rfl⟩ | ⟨hwn, g1, g2⟩
 · have hr2 : X = ⟨#[]⟩ ∧ n = 2 := by
    have hr := HR.out.2
    unfold failV at hr
    rw [if_neg (fun h => h.2 hw0)] at hr
    exact ⟨ByteArray.ext (Array.toList_inj.1 (congrArg Prod.fst hr).symm), (congrArg Prod.snd hr).symm⟩
   obtain ⟨rfl, rfl⟩ := hr2
   clear hr hbm hw0 hwl hri hbv hz1 hzW bW bW1 bW2 hK hS hT2 hwt hWB hVS hCN hvk hvi h0 h1 hc0 hc1 his
   cases bm with
   | false =>
    go_enter Tryz.func46, Tryz.ntmps46
    go_wp2_with (first
     | (go_at_call 102; refine hmay.mono ?_; rintro e w1 ⟨rfl, hb1⟩))
    go_ret2
    exact ⟨rfl, Below.on HBW.out hb1⟩
   | true =>
    go_enter Tryz.func46, Tryz.ntmps46
    go_wp2_with (first
     | (go_at_call 102; refine hmay.mono ?_; rintro e w1 ⟨rfl, hb1⟩)
     | (go_at_call 48; refine (hwd _).mono ?_; rintro e w2 ⟨rfl, hb2⟩))
    go_ret2
    exact ⟨rfl, Below.on HBW.out (Below.on hb1 hb2)⟩
 · cases bm with
   | false =>
    have hr2 : X = ⟨#[]⟩ ∧ n = 2 := by
     have hr := HR.out.2
     unfold failV at hr
     rw [if_neg (fun h => by rw [HR.out.1] at h; cases h.1)] at hr
     exact ⟨ByteArray.ext (Array.toList_inj.1 (congrArg Prod.fst hr).symm), (congrArg Prod.snd hr).symm⟩
    obtain ⟨rfl, rfl⟩ := hr2
    clear hr hbm hwn hwl hri hbv hz1 hzW bW bW1 bW2 hK hS hT2 hwt hWB hVS hCN hvk hvi h0 h1 hc0 hc1 his
    go_enter Tryz.func46, Tryz.ntmps46
    go_wp2_with (first
     | (go_at_call 102; refine hmay.mono ?_; rintro e w1 ⟨rfl, hb1⟩))
    go_ret2
    exact ⟨rfl, Below.on HBW.out hb1⟩
   | true =>
    have HPUT : Hid (putV (failO i c v) = (X.data.toList, n)) := Lib.hid (by
     have hr := HR.out.2
     unfold failV at hr
     rwa [if_pos ⟨HR.out.1, hwn⟩] at hr)
    clear hr hbm hwn hwl hri hbv hz1 hzW bW bW1 bW2 hK hS hT2 hwt hWB hVS hCN hvk hvi h0 h1 hc0 hc1 his
    go_enter Tryz.func46, Tryz.ntmps46
    go_upto_region 3 with (first
     | (go_at_call 102; refine hmay.mono ?_; rintro e w1 ⟨rfl, hb1⟩)
     | (go_at_call 48; refine (hwd _).mono ?_; rintro e w2 ⟨rfl, hb2⟩))
    have b2 := Below.on hb1 hb2
    clear c0 c1 c2 g1 g2
    obtain ⟨zx, hzxe⟩ : ∃ z, w2.heap.size = z := ⟨_, rfl⟩
    obtain ⟨W3, hW3⟩ : ∃ V, w2.alloc (.cells #[.int .i64 0, .string ⟨#[]⟩, .slice none 0 0, .slice none 0 0] 25) = V := ⟨_, rfl⟩
    have bW3 := alloc_b hW3
    have hj3 : JBox W3 zx := by rw [← hW3, ← hzxe]; exact JBox.alloc _ _ _ _ _
    have HJ3 := Lib.hid hj3
    have hzw : W.heap.size ≤ zx := by have := b2.size; omega
    clear hj3
    go_upto_region 4 with (first
     | (refine store_val rfl (.tmp 8) (.tmp 18) rfl zx rfl (.int .i64 6) (.string ⟨#[]⟩) (.slice none 0 0) (.slice none 0 0) rfl rfl HJ3.out (fun V3 hx3 hg3 _ => ?_)))
    have b3 := below_gbz (Below.on b2 bW3) hzw hg3
    have hzx : zx < V3.heap.size := (ltS hx3)
    have hor3 := OR.nil V3
    have hz3 : W.heap.size ≤ V3.heap.size := b3.size
    clear hb1 hb2 b2 bW3 hg3 hW3 hzxe
    refine wp_region_late (S := (fun V => V.heap[zx]? = some (.cells #[.int .i64 6, .string ⟨#[]⟩, .slice none 0 0, .slice none 0 0] 25 (0, 0)))) 4 (by kernel_rfl) (show (fun V => V.heap[zx]? = some (.cells #[.int .i64 6, .string ⟨#[]⟩, .slice none 0 0, .slice none 0 0] 25 (0, 0))) V3.drew from hx3) (fun hHeld => ?_)
    refine wpAnyU_take (i := 0) (oi := { dst := some 19, op := Op.load 25 (Operand.tmp 8), type := 25, pos := "ref.go:178", after := #[], guard := none }) (v := ?_) [3, 4] rfl (by kernel_rfl) (by kernel_rfl) (by kernel_rfl) (by kernel_rfl) (fun _ _ _ h => h) (Or.inl ⟨by rfl, ?_⟩) (by assumption) ?_
    rotate_left
    · intro w hS; obtain ⟨k0, k1, k2, k3⟩ := cells4 hS; go_simp; with_reducible rfl
    try simp only [Act.put, aSA, aSZ, aSS]
    refine wpAnyU_take (i := 1) (oi := { dst := some 20, op := Op.move (Operand.tmp 1), type := 3, pos := "ref.go:178", after := #[], guard := none }) (v := ?_) [2, 3, 4] rfl (by kernel_rfl) (by kernel_rfl) (by kernel_rfl) (by kernel_rfl) (fun _ _ _ h => h) (Or.inl ⟨by rfl, ?_⟩) (by assumption) ?_
    rotate_left
    · intro w hS; go_simp; with_reducible rfl
    try simp only [Act.put, aSA, aSZ, aSS]
    refine wpAnyU_ready (rs := [2]) (by kernel_rfl) (by simp) (AllReadyU.cons (o := { dst := some 21, op := Op.call { callee := Callee.value (Operand.func 109), args := #[Operand.tmp 20], argTypes := #[2] }, type := 25, pos := "ref.go:178", after := #[eDa 1], guard := none }) rfl (fun K hK => ?_) AllReadyU.nil)
    rw [if_pos (by rfl)]
    go_simp
    (go_at_call 109; refine (rnumber_any c HCB.out.1 HCB.out.2 CN HC.out.1 _).mono ?_; rintro e w4 ⟨rfl, hb4⟩; have b34 : Below V3.heap.size V3 w4 := (Below.refl _ _).drew.trans hb4; have hor4 := hor3.below b34)
    refine hK.out _ _ (fun _ => (b34.block _ hzx).trans hx3) (fun hS2 => ?_)
    replace hS2 := hS2 (by decide)
    clear hK K
    try simp only [Act.put, aSA, aSZ, aSS]
    refine wpAnyU_ready (rs := [3]) (by kernel_rfl) (by simp) (AllReadyU.cons (o := { dst := some 22, op := Op.call { callee := Callee.value (Operand.func 104), args := #[Operand.tmp 19, Operand.const (Value.string { data := #[99, 111, 100, 101] }), Operand.tmp 21], argTypes := #[25, 9, 25] }, type := 25, pos := "ref.go:178", after := #[eDa 0, eDa 2, eCh 2], guard := none }) rfl (fun K hK => ?_) AllReadyU.nil)
    rw [if_pos (by rfl)]
    go_simp
    (go_at_call 104; refine (with_leaf hor4 ⟨#[99, 111, 100, 101]⟩ (numJ c) CN HC.out.1 rfl rfl 0 1 0 1 rfl rfl rfl rfl (by decide) (by decide)).mono ?_; rintro e w5 ⟨p1, q1, p2, q2, rfl, hor5, hb5, _⟩; have b35 := b34.trans hb5)
    refine hK.out _ _ (fun _ => (b35.block _ hzx).trans hx3) (fun hS2 => ?_)
    replace hS2 := hS2 (by decide)
    clear hK K
    try simp only [Act.put, aSA, aSZ, aSS]
    refine wpAnyU_ready (rs := [4]) (by kernel_rfl) (by simp) (AllReadyU.cons (o := { dst := none, op := Op.store 25 (Operand.tmp 8) (Operand.tmp 22), type := 0, pos := "ref.go:178", after := #[eDa 3, eCh 3, ePh 0, ePh 1, ePh 2, ePh 3], guard := none }) rfl (fun K hK => ?_) AllReadyU.nil)
    rw [if_pos (by rfl)]
    refine store_val2 (.tmp 8) (.tmp 22) rfl zx rfl (.int .i64 6) (.string ⟨#[]⟩) (.slice p1 1 q1) (.slice p2 1 q2) rfl (by simp [Value.oneCell']) ⟨_, _, _, _, (b35.block _ hzx).trans hx3⟩ (fun V5 hx5 hg5 _ => ?_)
    refine hK.out _ _ (fun h => absurd h (by decide)) (fun _ => ?_)
    clear hK K
    try simp only [Act.put]
    have b5 := below_gbz (Below.on b3 b35) hzw hg5
    replace hor5 := hor5.set hg5 (hor5.ap (.inl hzx))
    have s5 := hg5.size
    have s35 := b35.size
    clear b34 b35 hor4 hb4 hb5 hg5 hx3 hor3
    refine wpAnyU_done (by kernel_rfl) ?_ _
    go_upto_region 5 with fail
    refine wp_region_late (S := (fun V => V.heap[zx]? = some (.cells #[.int .i64 6, .string ⟨#[]⟩, .slice p1 1 q1, .slice p2 1 q2] 25 (0, 0)))) 5 (by kernel_rfl) (show (fun V => V.heap[zx]? = some (.cells #[.int .i64 6, .string ⟨#[]⟩, .slice p1 1 q1, .slice p2 1 q2] 25 (0, 0))) V5.drew from hx5) (fun hHeld => ?_)
    refine wpAnyU_take (i := 0) (oi := { dst := some 23, op := Op.load 25 (Operand.tmp 8), type := 25, pos := "ref.go:179", after := #[], guard := none }) (v := ?_) [4, 5] rfl (by kernel_rfl) (by kernel_rfl) (by kernel_rfl) (by kernel_rfl) (fun _ _ _ h => h) (Or.inl ⟨by rfl, ?_⟩) (by assumption) ?_
    rotate_left
    · intro w hS; obtain ⟨k0, k1, k2, k3⟩ := cells4 hS; go_simp; with_reducible rfl
    try simp only [Act.put, aSA, aSZ, aSS]
    refine wpAnyU_take (i := 1) (oi := { dst := some 24, op := Op.move (Operand.tmp 1), type := 3, pos := "ref.go:179", after := #[], guard := none }) (v := ?_) [2, 3, 4, 5] rfl (by kernel_rfl) (by kernel_rfl) (by kernel_rfl) (by kernel_rfl) (fun _ _ _ h => h) (Or.inl ⟨by rfl, ?_⟩) (by assumption) ?_
    rotate_left
    · intro w hS; go_simp; with_reducible rfl
    try simp only [Act.put, aSA, aSZ, aSS]
    refine wpAnyU_ready (rs := [2]) (by kernel_rfl) (by simp) (AllReadyU.cons (o := { dst := some 25, op := Op.call { callee := Callee.value (Operand.func 48), args := #[Operand.tmp 24], argTypes := #[3] }, type := 9, pos := "ref.go:179", after := #[eDa 1], guard := none }) rfl (fun K hK => ?_) AllReadyU.nil)
    rw [if_pos (by rfl)]
    go_simp
    (go_at_call 48; refine (rwords_any c WB HC.out.2 _).mono ?_; rintro e w6 ⟨rfl, hb6⟩; have b56 : Below V5.heap.size V5 w6 := (Below.refl _ _).drew.trans hb6)
    refine hK.out _ _ (fun _ => (b56.block _ (by omega)).trans hx5) (fun hS2 => ?_)
    replace hS2 := hS2 (by decide)
    clear hK K
    try simp only [Act.put, aSA, aSZ, aSS]
    refine wpAnyU_ready (rs := [3]) (by kernel_rfl) (by simp) (AllReadyU.cons (o := { dst := some 26, op := Op.call { callee := Callee.value (Operand.func 97), args := #[Operand.tmp 25], argTypes := #[9] }, type := 25, pos := "ref.go:179", after := #[eDa 2, eCh 2], guard := none }) rfl (fun K hK => ?_) AllReadyU.nil)
    rw [if_pos (by rfl)]
    go_simp
    (go_at_call 97; refine (rtxt_any WB _).mono ?_; rintro e w7 ⟨rfl, hb7⟩; have b57 := Below.on b56 hb7; have hor7 := hor5.below b57)
    refine hK.out _ _ (fun _ => (b57.block _ (by omega)).trans hx5) (fun hS2 => ?_)
    replace hS2 := hS2 (by decide)
    clear hK K
    try simp only [Act.put, aSA, aSZ, aSS]
    refine wpAnyU_ready (rs := [4]) (by kernel_rfl) (by simp) (AllReadyU.cons (o := { dst := some 27, op := Op.call { callee := Callee.value (Operand.func 104), args := #[Operand.tmp 23, Operand.const (Value.string { data := #[109, 101, 115, 115, 97, 103, 101] }), Operand.tmp 26], argTypes := #[25, 9, 25] }, type := 25, pos := "ref.go:179", after := #[eDa 0, eDa 3, eCh 3], guard := none }) rfl (fun K hK => ?_) AllReadyU.nil)
    rw [if_pos (by rfl)]
    go_simp
    (go_at_call 104; refine (with_leaf hor7 ⟨#[109, 101, 115, 115, 97, 103, 101]⟩ (txtV (wordsV c)) WB HC.out.2 rfl rfl 1 2 1 2 rfl rfl rfl rfl (by decide) (by decide)).mono ?_; rintro e w8 ⟨p3, q3, p4, q4, rfl, hor8, hb8, _⟩; have b58 := (b57.mono (by omega)).trans hb8)
    refine hK.out _ _ (fun _ => (b58.block _ (by omega)).trans hx5) (fun hS2 => ?_)
    replace hS2 := hS2 (by decide)
    clear hK K
    try simp only [Act.put, aSA, aSZ, aSS]
    refine wpAnyU_ready (rs := [5]) (by kernel_rfl) (by simp) (AllReadyU.cons (o := { dst := none, op := Op.store 25 (Operand.tmp 8) (Operand.tmp 27), type := 0, pos := "ref.go:179", after := #[eDa 4, eCh 4, ePh 0, ePh 1, ePh 2, ePh 3, ePh 4], guard := none }) rfl (fun K hK => ?_) AllReadyU.nil)
    rw [if_pos (by rfl)]
    refine store_val2 (.tmp 8) (.tmp 27) rfl zx rfl (.int .i64 6) (.string ⟨#[]⟩) (.slice p3 2 q3) (.slice p4 2 q4) rfl (by simp [Value.oneCell']) ⟨_, _, _, _, (b58.block _ (by omega)).trans hx5⟩ (fun V8 hx8 hg8 _ => ?_)
    refine hK.out _ _ (fun h => absurd h (by decide)) (fun _ => ?_)
    clear hK K
    try simp only [Act.put]
    have b8 := below_gbz (b5.trans (b58.mono (by omega))) hzw hg8
    replace hor8 : OR V3.heap.size V8 [kCode, kMessage] [leafC (numJ c), leafC (txtV (wordsV c))] p3 q3 p4 q4 := hor8.set hg8 (hor8.ap (.inl hzx))
    have s8 := hg8.size
    have s58 := b58.size
    clear b56 b57 b58 hor7 hb6 hb7 hb8 hg8 hx5 hor5 b5
    refine wpAnyU_done (by kernel_rfl) ?_ _
    by_cases k0 : v.kind = 0
    · have q0 : (v.kind != 0) = false := by simp [k0]
      have hflt : faultO c v = .mk 6 [] [kCode, kMessage] [numJ c, txtV (wordsV c)] := by
       unfold faultO
       simp [k0]
      clear k0
      obtain ⟨d0, d1, d2, d3⟩ := HV.out V8 b8
      go_upto_region 8 with fail
      have hx9 := hx8
      have hor9 := hor8
      have b9 := b8
      clear d0 d1 d2 d3
      have hkf : KI V8 (faultO c v) p3 q3 p4 q4 := by
       rw [hflt]
       exact hor9.ki (fun c hc => by
        simp only [List.mem_cons, List.not_mem_nil, or_false] at hc
        rcases hc with rfl | rfl
        · exact leaf_ok rfl rfl HL.out.1
        · exact leaf_ok rfl rfl HL.out.2.1) ⟨(by show 2 ≤ maxLen; decide), by show 2 ≤ maxLen; decide, keys_short (by decide)⟩
      have HKF := Lib.hid hkf
      have HX9 := Lib.hid (And.intro hx9 b9)
      have hs9 : zx < V8.heap.size := (ltS hx9)
      clear hkf hx9 hor9
      refine Code.wp_mono ?_ (rfR i S VS HS.out.1 HS.out.2.1 HBD.out.1 HBD.out.2 w.heap.size V8 (HI.out V8 HX9.out.2) _ _ _ _ _ _ _ _ _ _ _ _ _ _ _ _ _ _ _ _ _ _ _ _ _ _ _ _ _ _ _ _ _ _ _ _ _ _ _ _ _ _ _)
      intro e a' wa h
      cases e with
      | normal =>
       obtain ⟨z, r3, s3, r4, s4, xa, xd, hz, hor, hba, hzl, rfl⟩ := h
       obtain ⟨o0, o1, o2, o3⟩ := cells4 hz
       obtain ⟨f0, f1, f2, f3⟩ := cells4 ((hba.block _ hs9).trans HX9.out.1)
       have ba := Below.on HX9.out.2 hba
       have hwi : Calls Tryz.prog 104 #[.agg #[.int .i64 6, .string ⟨#[]⟩, .slice r3 2 s3, .slice r4 2 s4], .string ⟨#[101, 114, 114, 111, 114]⟩, .agg #[.int .i64 6, .string ⟨#[]⟩, .slice p3 2 q3, .slice p4 2 q4]] wa fun e w' => ∃ kp kc ip ic, e = .returned (.agg #[.int .i64 6, .string ⟨#[]⟩, .slice kp 3 kc, .slice ip 3 ic]) ∧ OR V8.heap.size w' [kVer, kId, kError] [leafC (txtV v20), leafC i.val, ⟨faultO c v, p3, q3, p4, q4⟩] kp kc ip ic ∧ Below V8.heap.size wa w' := by
        have := with_any hor ⟨#[101, 114, 114, 111, 114]⟩ ⟨faultO c v, p3, q3, p4, q4⟩ ⟨#[]⟩ rfl 2 3 2 3 rfl rfl rfl rfl (by decide) (by decide)
        simp only [hflt] at this
        rw [hflt]
        refine this.mono ?_
        rintro e w' ⟨a, b, c, d, h1, h2, h3, _⟩
        exact ⟨a, b, c, d, h1, h2, h3⟩
       clear hz hor
       go_wp2_with (first
        | (go_at_call 104; refine hwi.mono ?_; rintro e w4 ⟨p7, q7, p8, q8, rfl, hor4, hb4⟩
           have b4 : Below V8.heap.size V8 w4 := hba.trans hb4
           have hki : KI w4 (failO i c v) p7 q7 p8 q8 := hor4.ki (fun c hc => (by
            simp only [List.mem_cons, List.not_mem_nil, or_false] at hc
            rcases hc with rfl | rfl | rfl
            · exact leaf_ok rfl rfl (by decide)
            · exact leaf_ok HN.out.1 HN.out.2 HL.out.2.2.1
            · exact ⟨HKF.out.stay b4, (by show (List.length (α := UInt8) []) ≤ maxLen; decide)⟩)) ⟨(by show 3 ≤ maxLen; decide), by show 3 ≤ maxLen; decide, keys_short (by decide)⟩
           have h106 : Calls Tryz.prog 106 #[.agg #[.int .i64 6, .string ⟨#[]⟩, .slice p7 3 q7, .slice p8 3 q8]] w4 fun e w'' => e = .returned (.tuple #[.string X, .int .i64 (n : Nat)]) ∧ Below w4.heap.size w4 w'' := rput_is hki HWT.out (S := ⟨#[]⟩) rfl HPUT.out w4 (Below.refl _ _)
           clear hor4 hki hwi)
        | (go_at_call 106; refine h106.mono ?_; rintro e w5 ⟨rfl, hb5⟩))
       go_ret2
       exact ⟨rfl, Below.on HBW.out (Below.on (Below.on HX9.out.2 b4) hb5)⟩
      | exit _ => exact h.elim
      | goto _ => exact h.elim
      | ret => exact h.elim
      | panic _ => exact h.elim
      | outgrown => exact h.elim
    · have q0 : (v.kind != 0) = true := by simp [k0]
      have hflt : faultO c v = .mk 6 [] [kCode, kMessage, kData] [numJ c, txtV (wordsV c), v] := by
       unfold faultO
       simp [k0]
      clear k0
      obtain ⟨d0, d1, d2, d3⟩ := HV.out V8 b8
      obtain ⟨k0, k1, k2, k3⟩ := cells4 hx8
      have had := with_any hor8 ⟨#[100, 97, 116, 97]⟩ ⟨v, kp, kc, ip, ic⟩ T HS.out.2.2 2 3 2 3 rfl rfl rfl rfl (by decide) (by decide)
      go_upto_region 8 with (first
       | (go_at_call 104; refine had.mono ?_; rintro e w9 ⟨p5, q5, p6, q6, rfl, hor9, hb9, _⟩; have hj9 : JBox w9 zx := ⟨_, _, _, _, (hb9.block _ hzx).trans hx8⟩; have HJ9 := Lib.hid hj9; clear hj9)
       | (refine store_val rfl (.tmp 8) (.tmp 33) rfl zx rfl (.int .i64 6) (.string ⟨#[]⟩) (.slice p5 3 q5) (.slice p6 3 q6) rfl rfl HJ9.out (fun V9 hx9 hg9 _ => ?_)
          have b9 := below_gbz (b8.trans (hb9.mono hz3)) hzw hg9
          replace hor9 : OR V3.heap.size V9 [kCode, kMessage, kData] [leafC (numJ c), leafC (txtV (wordsV c)), ⟨v, kp, kc, ip, ic⟩] p5 q5 p6 q6 := (hor9.set hg9 (hor9.ap (.inl hzx)))
          clear hb9 hg9 d0 d1 d2 d3 k0 k1 k2 k3 had))
      have hkf : KI V9 (faultO c v) p5 q5 p6 q6 := by
       rw [hflt]
       exact hor9.ki (fun c hc => by
        simp only [List.mem_cons, List.not_mem_nil, or_false] at hc
        rcases hc with rfl | rfl | rfl
        · exact leaf_ok rfl rfl HL.out.1
        · exact leaf_ok rfl rfl HL.out.2.1
        · exact ⟨HK.out V9 b9, HL.out.2.2.2⟩) ⟨(by show 3 ≤ maxLen; decide), by show 3 ≤ maxLen; decide, keys_short (by decide)⟩
      have HKF := Lib.hid hkf
      have HX9 := Lib.hid (And.intro hx9 b9)
      have hs9 : zx < V9.heap.size := (ltS hx9)
      clear hkf hx9 hor9
      refine Code.wp_mono ?_ (rfR i S VS HS.out.1 HS.out.2.1 HBD.out.1 HBD.out.2 w.heap.size V9 (HI.out V9 HX9.out.2) _ _ _ _ _ _ _ _ _ _ _ _ _ _ _ _ _ _ _ _ _ _ _ _ _ _ _ _ _ _ _ _ _ _ _ _ _ _ _ _ _ _ _)
      intro e a' wa h
      cases e with
      | normal =>
       obtain ⟨z, r3, s3, r4, s4, xa, xd, hz, hor, hba, hzl, rfl⟩ := h
       obtain ⟨o0, o1, o2, o3⟩ := cells4 hz
       obtain ⟨f0, f1, f2, f3⟩ := cells4 ((hba.block _ hs9).trans HX9.out.1)
       have ba := Below.on HX9.out.2 hba
       have hwi : Calls Tryz.prog 104 #[.agg #[.int .i64 6, .string ⟨#[]⟩, .slice r3 2 s3, .slice r4 2 s4], .string ⟨#[101, 114, 114, 111, 114]⟩, .agg #[.int .i64 6, .string ⟨#[]⟩, .slice p5 3 q5, .slice p6 3 q6]] wa fun e w' => ∃ kp kc ip ic, e = .returned (.agg #[.int .i64 6, .string ⟨#[]⟩, .slice kp 3 kc, .slice ip 3 ic]) ∧ OR V9.heap.size w' [kVer, kId, kError] [leafC (txtV v20), leafC i.val, ⟨faultO c v, p5, q5, p6, q6⟩] kp kc ip ic ∧ Below V9.heap.size wa w' := by
        have := with_any hor ⟨#[101, 114, 114, 111, 114]⟩ ⟨faultO c v, p5, q5, p6, q6⟩ ⟨#[]⟩ rfl 2 3 2 3 rfl rfl rfl rfl (by decide) (by decide)
        simp only [hflt] at this
        rw [hflt]
        refine this.mono ?_
        rintro e w' ⟨a, b, c, d, h1, h2, h3, _⟩
        exact ⟨a, b, c, d, h1, h2, h3⟩
       clear hz hor
       go_wp2_with (first
        | (go_at_call 104; refine hwi.mono ?_; rintro e w4 ⟨p7, q7, p8, q8, rfl, hor4, hb4⟩
           have b4 : Below V9.heap.size V9 w4 := hba.trans hb4
           have hki : KI w4 (failO i c v) p7 q7 p8 q8 := hor4.ki (fun c hc => (by
            simp only [List.mem_cons, List.not_mem_nil, or_false] at hc
            rcases hc with rfl | rfl | rfl
            · exact leaf_ok rfl rfl (by decide)
            · exact leaf_ok HN.out.1 HN.out.2 HL.out.2.2.1
            · exact ⟨HKF.out.stay b4, (by show (List.length (α := UInt8) []) ≤ maxLen; decide)⟩)) ⟨(by show 3 ≤ maxLen; decide), by show 3 ≤ maxLen; decide, keys_short (by decide)⟩
           have h106 : Calls Tryz.prog 106 #[.agg #[.int .i64 6, .string ⟨#[]⟩, .slice p7 3 q7, .slice p8 3 q8]] w4 fun e w'' => e = .returned (.tuple #[.string X, .int .i64 (n : Nat)]) ∧ Below w4.heap.size w4 w'' := rput_is hki HWT.out (S := ⟨#[]⟩) rfl HPUT.out w4 (Below.refl _ _)
           clear hor4 hki hwi)
        | (go_at_call 106; refine h106.mono ?_; rintro e w5 ⟨rfl, hb5⟩))
       go_ret2
       exact ⟨rfl, Below.on HBW.out (Below.on (Below.on HX9.out.2 b4) hb5)⟩
      | exit _ => exact h.elim
      | goto _ => exact h.elim
      | ret => exact h.elim
      | panic _ => exact h.elim
      | outgrown => exact h.elim
end Go.Proofs.Rp
