/- lsp.Told at a question for actions: one action. Printed by gen_oc.py. -/
import Derived.Test.YtaiaiiepbpbmmaaGreatDoorCmOB
import Derived.Test.YtaiaiiepbpbmmaaGreatDoorCmShelf4
namespace Go.Proofs.Ls
open Go.RowKit Go.Maps Go.Lib Go.Proofs.Utf Go.Proofs.Jt Go.Proofs

def kTitle : List UInt8 := [116, 105, 116, 108, 101]
def kKind : List UInt8 := [107, 105, 110, 100]
def kEdit : List UInt8 := [101, 100, 105, 116]
/-- an action as JSON -/
def actJ (pos : Int → Int × Int) (us : List UInt8) (n : Int) (l : List SpV) (ts ks : List UInt8) : JV := .mk 6 [] [kTitle, kKind, kEdit] [strJ ts, strJ ks, changedJ pos us n l]
theorem obj_row3 {w8 w9 : World} {B B' : Nat} {pos : Int → Int × Int} {us : List UInt8} {n : Int} {l : List SpV} {ts ks : List UInt8} {Kb : ByteArray} {ka ia : Option Addr} {ca da c0 : Nat} (_h0 : B ≤ B') (hB : B ≤ w8.heap.size) (hk : KP w8 (B' ≤ ·) (changedJ pos us n l) ka ca ia da) (hb : Below w8.heap.size w8 w9) (hr : w9.heap[w8.heap.size]? = some (.cells #[.string ⟨#[116, 105, 116, 108, 101]⟩, .int .i64 4, .string (Kb.extract 9 Kb.size), .slice none 0 0, .slice none 0 0, .string ⟨#[107, 105, 110, 100]⟩, .int .i64 4, .string Kb, .slice none 0 0, .slice none 0 0, .string ⟨#[101, 100, 105, 116]⟩, .int .i64 6, .string ⟨#[]⟩, .slice ka 1 ca, .slice ia 1 da] 182 (0, 0))) (hT : (⟨ts.toArray⟩ : ByteArray) = (Kb.extract 9 Kb.size)) (hK : (⟨ks.toArray⟩ : ByteArray) = Kb) (hl : ts.length ≤ maxLen) (hl2 : ks.length ≤ maxLen) :
    Calls Tryz.prog 119 #[.slice (some ⟨w8.heap.size, 0, none⟩) 3 c0] w9 fun e w' => ∃ kp kc ip ic, e = .returned (.agg #[.int .i64 6, .string ⟨#[]⟩, .slice kp 3 kc, .slice ip 3 ic]) ∧ KP w' (B ≤ ·) (actJ pos us n l ts ks) kp kc ip ic ∧ Below w9.heap.size w9 w' := by
  rw [← hT, ← hK] at hr
  exact object_row (w := w9) (g := w8.heap.size) (c0 := c0) (n := 3) (B := B) [(kTitle, leafI (strJ ts)), (kKind, leafI (strJ ks)), (kEdit, ⟨changedJ pos us n l, ka, ca, ia, da⟩)] hr rfl (by omega) (by have := hb.size; omega) (fun f hf => by
    simp only [List.mem_cons, List.not_mem_nil, or_false] at hf
    rcases hf with rfl | rfl | rfl
    · exact ⟨KP.leaf _ _ _ _, hl⟩
    · exact ⟨KP.leaf _ _ _ _, hl2⟩
    · exact ⟨(kp_on' hk hb).keep (Nat.le_refl _) (fun _ _ _ => rfl) (fun q hq _ => by omega), Nat.zero_le _⟩) (fun f hf => by
    simp only [List.mem_cons, List.not_mem_nil, or_false] at hf
    rcases hf with rfl | rfl | rfl
    · exact (by decide : kTitle.length ≤ maxLen)
    · exact (by decide : kKind.length ≤ maxLen)
    · exact (by decide : kEdit.length ≤ maxLen)) [kTitle, kKind, kEdit] [strJ ts, strJ ks, changedJ pos us n l] rfl rfl
set_option maxRecDepth 100000 in
set_option maxHeartbeats 32000000 in
theorem told_act {w : World} (hE : ∀ V, Below w.heap.size w V → Env V) {dg eg ag : Nat} {us ks ts : List UInt8} {U T Kb : ByteArray} {v n : Int} {sp : Option Addr} {sc : Nat} {l : List SpV} (pos : Int → Int × Int)
    (hd : w.heap[dg]? = some (.cells #[.string U, .string T, .int .i64 v] 93 (0, 0))) (he : w.heap[eg]? = some (.cells #[.string U, .int .i64 n, .slice sp l.length sc] 95 (0, 0))) (ha : w.heap[ag]? = some (.cells #[.string Kb, .slice (some ⟨eg, 0, none⟩) 1 1] 120 (0, 0))) (hs : SplP w sp l) (hl : l.length ≤ 1000)
    (hA : ∀ s ∈ l, (((0 ≤ (pos s.fr).1 ∧ (pos s.fr).1 ≤ 9223372036854775807) ∧ (0 ≤ (pos s.fr).2 ∧ (pos s.fr).2 ≤ 9223372036854775807)) ∧ ((0 ≤ (pos s.till).1 ∧ (pos s.till).1 ≤ 9223372036854775807) ∧ (0 ≤ (pos s.till).2 ∧ (pos s.till).2 ≤ 9223372036854775807))) ∧ AtC w T s.fr (pos s.fr) ∧ AtC w T s.till (pos s.till) ∧ s.text.length ≤ maxLen)
    (hn : -9223372036854775808 ≤ n ∧ n ≤ 9223372036854775807) (hU : (⟨us.toArray⟩ : ByteArray) = U) (hUl : us.length ≤ maxLen) (hT : (⟨ts.toArray⟩ : ByteArray) = (Kb.extract 9 Kb.size)) (hK : (⟨ks.toArray⟩ : ByteArray) = Kb) (htl : ts.length ≤ maxLen) (hkl : ks.length ≤ maxLen) (hKs : 9 ≤ Kb.size ∧ Kb.size ≤ 1000) (hlast : Lib.lastIndexByte Kb 46 = 8) :
    Calls Tryz.prog 61 #[.slice (some ⟨dg, 0, none⟩) 1 1, .agg #[.int .i64 3, .string ⟨#[]⟩, .int .i64 0, .int .i64 0, .int .i64 0, .int .i64 0, .string ⟨#[]⟩], .agg #[.int .i64 0, .string ⟨#[]⟩, .bool false, .int .i64 0, .int .i64 0, .string ⟨#[]⟩, .slice none 0 0, .slice (some ⟨ag, 0, none⟩) 1 1]] w fun e w' => ∃ ip ic, e = .returned (.agg #[.int .i64 5, .string ⟨#[]⟩, .slice none 0 0, .slice ip 1 ic]) ∧ KP w' (w.heap.size ≤ ·) (.mk 5 [] [] [actJ pos us n l ts ks]) none 0 ip ic ∧ Below w.heap.size w w' := by
  obtain ⟨W1, hW1⟩ : ∃ W, w.alloc (.cells #[.int .i64 3, .string ⟨#[]⟩, .int .i64 0, .int .i64 0, .int .i64 0, .int .i64 0, .string ⟨#[]⟩] 42) = W := ⟨_, rfl⟩
  obtain ⟨W2, hW2⟩ : ∃ W, W1.alloc (.cells #[.int .i64 0, .string ⟨#[]⟩, .bool false, .int .i64 0, .int .i64 0, .string ⟨#[]⟩, .slice none 0 0, .slice (some ⟨ag, 0, none⟩) 1 1] 99) = W := ⟨_, rfl⟩
  obtain ⟨W, hW⟩ : ∃ W, W2.alloc (.cells #[.int .i64 0, .string ⟨#[]⟩, .slice none 0 0, .slice none 0 0] 25) = W := ⟨_, rfl⟩
  have bW1 := alloc_b hW1
  have bW2 := alloc_b hW2
  have bW3 := alloc_b hW
  have z1 : W1.heap.size = w.heap.size + 1 := by rw [← hW1]; simp
  have z2 : W2.heap.size = w.heap.size + 2 := by rw [← hW2]; simp; omega
  have bW := Below.on bW1 (Below.on bW2 bW3)
  have r1 := ((Below.on bW2 bW3).block _ (ltS (row_at hW1))).trans (row_at hW1)
  have r2 := (bW3.block _ (ltS (row_at hW2))).trans (row_at hW2)
  rw [z1] at r2
  have y0 : W.cell? ⟨w.heap.size, 0, none⟩ = some (.int .i64 3) := by simp [World.cell?, r1]
  have hJ : JBox W (w.heap.size + 2) := by rw [← hW, ← z2]; exact JBox.alloc _ _ _ _ _
  have hzW : W.heap.size = w.heap.size + 3 := by rw [← hW]; simp; omega
  have h123 := array123 none 0 0 W
  have HJ : Hid (∀ V, Below W.heap.size W V → JBox V (w.heap.size + 2)) := Lib.hid fun V hV => hJ.same (hV.block _ hJ.lt)
  have HB := Lib.hid bW
  have HR2 := Lib.hid r2
  have HACT := Lib.hid ((bW.block _ (ltS ha)).trans ha)
  have HKK := Lib.hid (And.intro hT (And.intro hK (And.intro htl hkl)))
  have h124 : ∀ V : World, Calls Tryz.prog 124 #[.string Kb, .int .u8 46] V fun e w' => e = .returned (.int .i64 8) ∧ w' = V := fun V => by
    have := Tryz.strings_LastIndexByte Kb 46 (by omega) V
    rw [hlast] at this
    exact this
  have H124 := Lib.hid h124
  have H122 : Hid (∀ V, Below W.heap.size W V → Calls Tryz.prog 122 #[.slice (some ⟨dg, 0, none⟩) 1 1, .slice (some ⟨eg, 0, none⟩) 1 1] V fun e w' => ∃ kp kc ip ic, e = .returned (.agg #[.int .i64 6, .string ⟨#[]⟩, .slice kp 1 kc, .slice ip 1 ic]) ∧ KP w' (V.heap.size ≤ ·) (changedJ pos us n l) kp kc ip ic ∧ Below V.heap.size V w') := Lib.hid fun V hV => by
    have bV := Below.on bW hV
    exact changed122 (fun V' hV' => hE V' (Below.on bV hV')) pos ((bV.block _ (ltS hd)).trans hd) ((bV.block _ (ltS he)).trans he) (hs.below bV) hl (fun s hs => ⟨(hA s hs).1, (hA s hs).2.1.below bV, (hA s hs).2.2.1.below bV, (hA s hs).2.2.2⟩) hn hU hUl
  have HKS := Lib.hid hKs
  obtain ⟨i45_, hi45, hz450, hz451, hz452⟩ := info_parts info45
  subst hW1
  clear hE hd he ha hs hl hA hn hU hUl hT hK htl hkl hKs hlast h124 bW bW1 bW2 bW3 r1 r2 hJ
  go_enter Tryz.func61, Tryz.ntmps61
  go_upto_region 10 with (first
    | (go_at_call 123; refine h123.mono ?_; rintro e w1 ⟨rfl, hb1⟩))
  obtain ⟨W3, hW3⟩ : ∃ V, w1.alloc (.cells #[.int .i64 5, .string ⟨#[]⟩, .slice none 0 0, .slice none 0 0] 25) = V := ⟨_, rfl⟩
  rw [hW3]
  have hob0 := row_at hW3
  have hv3 := alloc_b hW3
  obtain ⟨ob, hoe⟩ : ∃ q, w1.heap.size = q := ⟨_, rfl⟩
  rw [hoe] at hob0
  simp only [hoe]
  have hobz : w.heap.size + 3 ≤ ob := by have := hb1.size; omega
  have hBw3 : Below W.heap.size W W3 := Below.on hb1 hv3
  have hCV3 : CV W3 (w.heap.size + 3) ob 5 ⟨#[]⟩ [] [] (.slice none 0 0) (.slice none 0 0) := ⟨hob0, World.ownsRow_nil _ _ _ _, World.ownsRow_nil _ _ _ _, by simp [Value.ownBlock], by simp [Value.ownBlock], hobz, fun c hc => by cases hc⟩
  have r2 := (hBw3.block _ (by omega)).trans HR2.out
  have y7 : W3.cell? ⟨w.heap.size + 1, 7, none⟩ = some (.slice (some ⟨ag, 0, none⟩) 1 1) := by simp [World.cell?, r2]
  clear hb1 hv3 hob0 h123 r2
  go_wp2_with fail
  go_loopw [54] (fun iv wr => ∃ (i : Nat) (Lo : List IC) (iw : Value), iv = .int .i64 i ∧ i ≤ 1 ∧ Lo.map (·.y) = [actJ pos us n l ts ks].take i ∧ CV wr (w.heap.size + 3) ob 5 ⟨#[]⟩ [] Lo (.slice none 0 0) iw ∧ Below W.heap.size W wr) (fun iv _ => 1 - (RowKit.intOf iv).toNat)
  case atStart => exact ⟨0, [], _, rfl, Nat.zero_le _, rfl, hCV3, hBw3⟩
  case round =>
    obtain ⟨i, Lo, iw, rfl, hi, hLo, hCo, hBo⟩ := hrel
    clear hCV3 hBw3 y7 y0
    obtain ⟨po, co, rfl⟩ := row_form hCo.ri
    have hLol : Lo.length = i := by
      have := congrArg List.length hLo
      rw [List.length_map, List.length_take] at this
      simpa [hi] using this
    by_cases hin : i < 1
    · obtain rfl : i = 0 := by omega
      have hLo1 : Lo.length ≤ 1 := by omega
      clear hLol
      have HLO := Lib.hid hLo
      have hxr := (hBo.block _ (ltS HACT.out)).trans HACT.out
      obtain ⟨wa, hwa⟩ : ∃ wa, wr.alloc (.cells #[.string Kb, .slice (some ⟨eg, 0, none⟩) 1 1] 120) = wa := ⟨_, rfl⟩
      obtain ⟨x0, x1⟩ := cells2 hxr
      have hra := alloc_b hwa
      have hxb := row_at hwa
      obtain ⟨xb, hxe⟩ : ∃ q, wr.heap.size = q := ⟨_, rfl⟩
      have hxlt : xb < wa.heap.size := by rw [← hxe, ← hwa]; simp
      rw [hxe] at hxb
      have hBa := Below.on hBo hra
      have HXB := Lib.hid hxb
      have HBA := Lib.hid hBa
      have HCA := Lib.hid (hCo.below hra)
      have HRI := Lib.hid hCo.ri
      clear hCo hBo hLo hxr hra hBa
      go_upto_region 13 with fail
      have hSD : wa.drew.heap[xb]? = some (.cells #[.string Kb, .slice (some ⟨eg, 0, none⟩) 1 1] 120 (0, 0)) := HXB.out
      have h124 := H124.out wa.drew
      have hk9 : (9 : Int) ≤ (Kb.size : Int) := by have := HKS.out; omega
      have hw9 : IntKind.i64.wrap 9 = 9 := IntWalk.i64_in _ (by omega)
      refine wp_region_held_drew (S := (fun V => V.heap[xb]? = some (.cells #[.string Kb, .slice (some ⟨eg, 0, none⟩) 1 1] 120 (0, 0)))) (by kernel_rfl) hSD (fun hHeld => ?_)
      refine wpAnyH_take (i := 0) (oi := { dst := some 58, op := Op.fieldAddr 120 (Operand.tmp 11) 0, type := 0, pos := "lsp.go:235", after := #[], guard := none }) (v := ?_) rfl (by kernel_rfl) (by kernel_rfl) (by kernel_rfl) (fun _ _ _ h => h) (Or.inl ⟨by rfl, ?_⟩) (by assumption) ?_
      rotate_left
      · intro wx hS; go_simp; with_reducible rfl
      try simp only [Act.put, aSA, aSZ, aSS]
      refine wpAnyH_take (i := 1) (oi := { dst := some 59, op := Op.load 9 (Operand.tmp 58), type := 9, pos := "lsp.go:235", after := #[{ on := 0, ground := Ground.data }], guard := none }) (v := ?_) rfl (by kernel_rfl) (by kernel_rfl) (by kernel_rfl) (fun _ _ _ h => h) (Or.inl ⟨by rfl, ?_⟩) (by assumption) ?_
      rotate_left
      · intro wx hS; obtain ⟨k0, k1⟩ := cells2 hS; go_simp; with_reducible rfl
      try simp only [Act.put, aSA, aSZ, aSS]
      refine wpAnyH_take (i := 2) (oi := { dst := some 60, op := Op.fieldAddr 120 (Operand.tmp 11) 0, type := 0, pos := "lsp.go:235", after := #[], guard := none }) (v := ?_) rfl (by kernel_rfl) (by kernel_rfl) (by kernel_rfl) (fun _ _ _ h => h) (Or.inl ⟨by rfl, ?_⟩) (by assumption) ?_
      rotate_left
      · intro wx hS; go_simp; with_reducible rfl
      try simp only [Act.put, aSA, aSZ, aSS]
      refine wpAnyH_take (i := 3) (oi := { dst := some 61, op := Op.load 9 (Operand.tmp 60), type := 9, pos := "lsp.go:235", after := #[{ on := 2, ground := Ground.data }], guard := none }) (v := ?_) rfl (by kernel_rfl) (by kernel_rfl) (by kernel_rfl) (fun _ _ _ h => h) (Or.inl ⟨by rfl, ?_⟩) (by assumption) ?_
      rotate_left
      · intro wx hS; obtain ⟨k0, k1⟩ := cells2 hS; go_simp; with_reducible rfl
      try simp only [Act.put, aSA, aSZ, aSS]
      refine wpAnyH_ready (rs := [4]) (by kernel_rfl) (by simp) (AllReadyH.cons (o := { dst := some 62, op := Op.call { callee := Callee.value (Operand.func 124), args := #[Operand.tmp 61, Operand.const (Value.int IntKind.u8 46)], argTypes := #[9, 5] }, type := 3, pos := "lsp.go:235", after := #[{ on := 3, ground := Ground.data }], guard := none }) rfl (fun K' hK => ?_) AllReadyH.nil)
      rw [if_pos (by rfl)]
      go_simp
      go_at_call 124
      refine h124.mono ?_
      rintro e w2 ⟨rfl, rfl⟩
      refine hK.out _ _ hSD (fun hH4 => ?_)
      clear hK K'
      try simp only [Act.put, aSA, aSZ, aSS]
      refine wpAnyH_take (i := 5) (oi := { dst := some 63, op := Op.binOp BinOp.add 3 (Operand.tmp 62) (Operand.const (Value.int IntKind.i64 1)) 3, type := 3, pos := "lsp.go:235", after := #[{ on := 4, ground := Ground.data }], guard := none }) (v := ?_) rfl (by kernel_rfl) (by kernel_rfl) (by kernel_rfl) (fun _ _ _ h => h) (Or.inl ⟨by rfl, ?_⟩) (by assumption) ?_
      rotate_left
      · intro wx hS; go_simp; with_reducible rfl
      try simp only [Act.put, aSA, aSZ, aSS]
      refine wpAnyH_take (i := 6) (oi := { dst := some 64, op := Op.slice 9 (Operand.tmp 59) (some (Operand.tmp 63)) none none, type := 9, pos := "lsp.go:235", after := #[{ on := 1, ground := Ground.data }, { on := 5, ground := Ground.data }], guard := none }) (v := ?_) rfl (by kernel_rfl) (by kernel_rfl) (by kernel_rfl) (fun _ _ _ h => h) (Or.inl ⟨by rfl, ?_⟩) (by assumption) ?_
      rotate_left
      · intro wx hS; go_simp; with_reducible rfl
      try simp only [Act.put, aSA, aSZ, aSS]
      refine wpAnyH_take (i := 7) (oi := { dst := some 12, op := Op.assign (Operand.tmp 64), type := 9, pos := "lsp.go:235", after := #[{ on := 6, ground := Ground.data }, { on := 4, ground := Ground.chain }, { on := 0, ground := Ground.phase }, { on := 1, ground := Ground.phase }, { on := 2, ground := Ground.phase }, { on := 3, ground := Ground.phase }, { on := 4, ground := Ground.phase }, { on := 5, ground := Ground.phase }, { on := 6, ground := Ground.phase }], guard := none }) (v := ?_) rfl (by kernel_rfl) (by kernel_rfl) (by kernel_rfl) (fun _ _ _ h => h) (Or.inl ⟨by rfl, ?_⟩) (by assumption) ?_
      rotate_left
      · intro wx hS; go_simp; with_reducible rfl
      try simp only [Act.put, aSA, aSZ, aSS]
      refine wpAnyH_done (by kernel_rfl) ?_ _
      obtain ⟨wb, hwb⟩ : ∃ V, wa.drew = V := ⟨_, rfl⟩
      rw [hwb]
      have bwb : Below wa.heap.size wa wb := by rw [← hwb]; exact (Below.refl _ _).drew
      have hxb2 := (bwb.block _ hxlt).trans HXB.out
      have hcob := HCA.out.below bwb
      have hbb := Below.on HBA.out bwb
      have h121 := text121 (Kb.extract 9 Kb.size) wb.drew
      have HS5 : Hid (∀ wx, FrP (fun q => (Value.slice po Lo.length co).ownBlock = some q) wb wx → (wx.cell? ⟨xb, 0, none⟩ = some (.string Kb) ∧ wx.cell? ⟨xb, 1, none⟩ = some (.slice (some ⟨eg, 0, none⟩) 1 1)) ∧ wx.cell? ⟨ob, 3, none⟩ = some (.slice po Lo.length co) ∧ wx.frozen? ⟨ob, 3, none⟩ = false) := Lib.hid fun wx hF => by
        have e1 := (hF.block xb (by have := bwb.size; omega) (fun e => by have := (row_lt HRI.out e).2; omega)).trans hxb2
        have e3 := (hF.block ob (Array.getElem?_eq_some_iff.1 hcob.hd).1 hcob.ni).trans hcob.hd
        obtain ⟨_, _, _, q3⟩ := cells4 e3
        refine ⟨⟨?_, ?_⟩, q3, ?_⟩
        · simp [World.cell?, e1]
        · simp [World.cell?, e1]
        · simp [World.frozen?, e3]
      have HSZ : Hid (w.heap.size + 3 ≤ wb.heap.size) := Lib.hid (by have := hbb.size; omega)
      have HCV := Lib.hid hcob
      have HBB := Lib.hid hbb
      have H122b : Hid (∀ V, Below wb.drew.heap.size wb.drew V → _) := Lib.hid fun V hV => H122.out V (Below.on hbb.drew hV)
      replace H122 := H122b
      clear hxb2 hcob hbb hSD H122b hk9 hw9
      go_wp2_with fail
      go_upto_region 14 with fail
      refine wp_region_late (S := fun v => (v.cell? ⟨xb, 0, none⟩ = some (.string Kb) ∧ v.cell? ⟨xb, 1, none⟩ = some (.slice (some ⟨eg, 0, none⟩) 1 1)) ∧ v.cell? ⟨ob, 3, none⟩ = some (.slice po Lo.length co) ∧ v.frozen? ⟨ob, 3, none⟩ = false) 19 (by kernel_rfl) (HS5.out _ ((FrP.refl _ _).drew)) (fun hHeld => ?_)
      refine wpAnyU_take (i := 0) (oi := { dst := some 65, op := Op.fieldAddr 25 (Operand.tmp 9) 3, type := 0, pos := "lsp.go:236", after := #[], guard := none }) (v := ?_) [1, 17, 18, 19] rfl (by kernel_rfl) (by kernel_rfl) (by kernel_rfl) (by kernel_rfl) (fun _ _ _ h => h) (Or.inl ⟨by rfl, ?_⟩) (by assumption) ?_
      rotate_left
      · intro w hS; obtain ⟨⟨hS0, hS1⟩, hS2, hS3⟩ := hS; go_simp; with_reducible rfl
      try simp only [Act.put, List.setIfInBounds_toArray, List.set_cons_zero, List.set_cons_succ]
      refine wpAnyU_take (i := 1) (oi := { dst := some 66, op := Op.load 23 (Operand.tmp 65), type := 23, pos := "lsp.go:236", after := #[{ on := 0, ground := Ground.data }], guard := none }) (v := ?_) [17, 18, 19] rfl (by kernel_rfl) (by kernel_rfl) (by kernel_rfl) (by kernel_rfl) (fun _ _ _ h => h) (Or.inl ⟨by rfl, ?_⟩) (by assumption) ?_
      rotate_left
      · intro w hS; obtain ⟨⟨hS0, hS1⟩, hS2, hS3⟩ := hS; go_simp; with_reducible rfl
      try simp only [Act.put, List.setIfInBounds_toArray, List.set_cons_zero, List.set_cons_succ]
      refine wpAnyU_take (i := 2) (oi := { dst := some 67, op := Op.move (Operand.tmp 12), type := 9, pos := "lsp.go:236", after := #[], guard := none }) (v := ?_) [3, 4, 7, 8, 12, 13, 14, 15, 16, 17, 18, 19] rfl (by kernel_rfl) (by kernel_rfl) (by kernel_rfl) (by kernel_rfl) (fun _ _ _ h => h) (Or.inl ⟨by rfl, ?_⟩) (by assumption) ?_
      rotate_left
      · intro w hS; obtain ⟨⟨hS0, hS1⟩, hS2, hS3⟩ := hS; go_simp; with_reducible rfl
      try simp only [Act.put, List.setIfInBounds_toArray, List.set_cons_zero, List.set_cons_succ]
      refine wpAnyU_take (i := 5) (oi := { dst := some 70, op := Op.fieldAddr 120 (Operand.tmp 11) 0, type := 0, pos := "lsp.go:236", after := #[], guard := none }) (v := ?_) [6, 7, 8, 12, 13, 14, 15, 16, 17, 18, 19] rfl (by kernel_rfl) (by kernel_rfl) (by kernel_rfl) (by kernel_rfl) (fun _ _ _ h => h) (Or.inl ⟨by rfl, ?_⟩) (by assumption) ?_
      rotate_left
      · intro w hS; obtain ⟨⟨hS0, hS1⟩, hS2, hS3⟩ := hS; go_simp; with_reducible rfl
      try simp only [Act.put, List.setIfInBounds_toArray, List.set_cons_zero, List.set_cons_succ]
      refine wpAnyU_take (i := 6) (oi := { dst := some 71, op := Op.load 9 (Operand.tmp 70), type := 9, pos := "lsp.go:236", after := #[{ on := 5, ground := Ground.data }], guard := none }) (v := ?_) [7, 8, 12, 13, 14, 15, 16, 17, 18, 19] rfl (by kernel_rfl) (by kernel_rfl) (by kernel_rfl) (by kernel_rfl) (fun _ _ _ h => h) (Or.inl ⟨by rfl, ?_⟩) (by assumption) ?_
      rotate_left
      · intro w hS; obtain ⟨⟨hS0, hS1⟩, hS2, hS3⟩ := hS; go_simp; with_reducible rfl
      try simp only [Act.put, List.setIfInBounds_toArray, List.set_cons_zero, List.set_cons_succ]
      refine wpAnyU_take (i := 9) (oi := { dst := some 74, op := Op.move (Operand.tmp 0), type := 101, pos := "lsp.go:236", after := #[], guard := none }) (v := ?_) [12, 13, 14, 15, 16, 17, 18, 19] rfl (by kernel_rfl) (by kernel_rfl) (by kernel_rfl) (by kernel_rfl) (fun _ _ _ h => h) (Or.inl ⟨by rfl, ?_⟩) (by assumption) ?_
      rotate_left
      · intro w hS; obtain ⟨⟨hS0, hS1⟩, hS2, hS3⟩ := hS; go_simp; with_reducible rfl
      try simp only [Act.put, List.setIfInBounds_toArray, List.set_cons_zero, List.set_cons_succ]
      refine wpAnyU_take (i := 10) (oi := { dst := some 75, op := Op.fieldAddr 120 (Operand.tmp 11) 1, type := 0, pos := "lsp.go:236", after := #[], guard := none }) (v := ?_) [11, 12, 13, 14, 15, 16, 17, 18, 19] rfl (by kernel_rfl) (by kernel_rfl) (by kernel_rfl) (by kernel_rfl) (fun _ _ _ h => h) (Or.inl ⟨by rfl, ?_⟩) (by assumption) ?_
      rotate_left
      · intro w hS; obtain ⟨⟨hS0, hS1⟩, hS2, hS3⟩ := hS; go_simp; with_reducible rfl
      try simp only [Act.put, List.setIfInBounds_toArray, List.set_cons_zero, List.set_cons_succ]
      refine wpAnyU_take (i := 11) (oi := { dst := some 76, op := Op.load 96 (Operand.tmp 75), type := 96, pos := "lsp.go:236", after := #[{ on := 10, ground := Ground.data }], guard := none }) (v := ?_) [12, 13, 14, 15, 16, 17, 18, 19] rfl (by kernel_rfl) (by kernel_rfl) (by kernel_rfl) (by kernel_rfl) (fun _ _ _ h => h) (Or.inl ⟨by rfl, ?_⟩) (by assumption) ?_
      rotate_left
      · intro w hS; obtain ⟨⟨hS0, hS1⟩, hS2, hS3⟩ := hS; go_simp; with_reducible rfl
      try simp only [Act.put, List.setIfInBounds_toArray, List.set_cons_zero, List.set_cons_succ]
      refine wpAnyU_ready (rs := [3]) (by kernel_rfl) (by simp) (AllReadyU.cons (o := { dst := some 68, op := Op.call { callee := Callee.value (Operand.func 121), args := #[Operand.tmp 67], argTypes := #[9] }, type := 25, pos := "lsp.go:236", after := #[{ on := 2, ground := Ground.data }], guard := none }) rfl (fun K hK => ?_) AllReadyU.nil)
      rw [if_pos (by rfl)]
      go_simp
      (go_at_call 121; refine h121.mono ?_; rintro e w6 ⟨rfl, hb6⟩; have F6 : FrP (fun q => (Value.slice po Lo.length co).ownBlock = some q) wb w6 := (FrP.refl _ _).drew.trans (FrP.of_none (gb_below' hb6)); have h121b := text121 Kb w6)
      refine hK.out _ _ (fun _ => HS5.out _ F6) (fun hS2 => ?_)
      replace hS2 := hS2 (by decide)
      clear hK K
      try simp only [Act.put, List.setIfInBounds_toArray, List.set_cons_zero, List.set_cons_succ]
      refine wpAnyU_pure (i := 4) (oi := { dst := some 69, op := Op.build 182 #[(0, Operand.const (Value.string { data := #[116, 105, 116, 108, 101] })), (1, Operand.tmp 68)], type := 182, pos := "lsp.go:236", after := #[{ on := 3, ground := Ground.data }], guard := none }) (v := ?_) rfl (by kernel_rfl) (by kernel_rfl) (by kernel_rfl) (by kernel_rfl) (fun _ _ _ h => h) (Or.inl ⟨by rfl, ?_⟩) (fun _ => by assumption) ?_
      rotate_left
      · intro w _; go_simp; with_reducible rfl
      try simp only [Act.put, List.setIfInBounds_toArray, List.set_cons_zero, List.set_cons_succ]
      refine wpAnyU_ready (rs := [7]) (by kernel_rfl) (by simp) (AllReadyU.cons (o := { dst := some 72, op := Op.call { callee := Callee.value (Operand.func 121), args := #[Operand.tmp 71], argTypes := #[9] }, type := 25, pos := "lsp.go:236", after := #[{ on := 6, ground := Ground.data }, { on := 3, ground := Ground.chain }], guard := none }) rfl (fun K hK => ?_) AllReadyU.nil)
      rw [if_pos (by rfl)]
      go_simp
      (go_at_call 121; refine h121b.mono ?_; rintro e w7 ⟨rfl, hb7⟩; have F7 := F6.trans (FrP.of_none (P := (fun q => (Value.slice po Lo.length co).ownBlock = some q)) (gb_below' hb7)); have h122 := H122.out w7 (Below.on hb6 hb7))
      refine hK.out _ _ (fun _ => HS5.out _ F7) (fun hS2 => ?_)
      replace hS2 := hS2 (by decide)
      clear hK K
      try simp only [Act.put, List.setIfInBounds_toArray, List.set_cons_zero, List.set_cons_succ]
      refine wpAnyU_pure (i := 8) (oi := { dst := some 73, op := Op.build 182 #[(0, Operand.const (Value.string { data := #[107, 105, 110, 100] })), (1, Operand.tmp 72)], type := 182, pos := "lsp.go:236", after := #[{ on := 7, ground := Ground.data }], guard := none }) (v := ?_) rfl (by kernel_rfl) (by kernel_rfl) (by kernel_rfl) (by kernel_rfl) (fun _ _ _ h => h) (Or.inl ⟨by rfl, ?_⟩) (fun _ => by assumption) ?_
      rotate_left
      · intro w _; go_simp; with_reducible rfl
      try simp only [Act.put, List.setIfInBounds_toArray, List.set_cons_zero, List.set_cons_succ]
      refine wpAnyU_ready (rs := [12]) (by kernel_rfl) (by simp) (AllReadyU.cons (o := { dst := some 77, op := Op.call { callee := Callee.value (Operand.func 122), args := #[Operand.tmp 74, Operand.tmp 76], argTypes := #[101, 96] }, type := 25, pos := "lsp.go:236", after := #[{ on := 9, ground := Ground.data }, { on := 11, ground := Ground.data }, { on := 7, ground := Ground.chain }], guard := none }) rfl (fun K hK => ?_) AllReadyU.nil)
      rw [if_pos (by rfl)]
      go_simp
      (go_at_call 122; refine h122.mono ?_; rintro e w8 ⟨ka, ca, ia, da, rfl, hka, hb8⟩; have F8 := F7.trans (FrP.of_none (P := (fun q => (Value.slice po Lo.length co).ownBlock = some q)) (gb_below' hb8)))
      refine hK.out _ _ (fun _ => HS5.out _ F8) (fun hS2 => ?_)
      replace hS2 := hS2 (by decide)
      clear hK K
      try simp only [Act.put, List.setIfInBounds_toArray, List.set_cons_zero, List.set_cons_succ]
      refine wpAnyU_pure (i := 13) (oi := { dst := some 78, op := Op.build 182 #[(0, Operand.const (Value.string { data := #[101, 100, 105, 116] })), (1, Operand.tmp 77)], type := 182, pos := "lsp.go:236", after := #[{ on := 12, ground := Ground.data }], guard := none }) (v := ?_) rfl (by kernel_rfl) (by kernel_rfl) (by kernel_rfl) (by kernel_rfl) (fun _ _ _ h => h) (Or.inl ⟨by rfl, ?_⟩) (fun _ => by assumption) ?_
      rotate_left
      · intro w _; go_simp; with_reducible rfl
      try simp only [Act.put, List.setIfInBounds_toArray, List.set_cons_zero, List.set_cons_succ]
      refine wpAnyU_ready (rs := [14]) (by kernel_rfl) (by simp) (AllReadyU.cons (o := { dst := some 79, op := Op.buildSlice 235 3 #[(0, Operand.tmp 69), (1, Operand.tmp 73), (2, Operand.tmp 78)], type := 235, pos := "lsp.go:236", after := #[{ on := 4, ground := Ground.data }, { on := 8, ground := Ground.data }, { on := 13, ground := Ground.data }], guard := none }) rfl (fun K hK => ?_) AllReadyU.nil)
      rw [if_pos (by rfl)]
      go_simp; obtain ⟨w9, hw9⟩ : ∃ V, w8.alloc (.cells #[.string ⟨#[116, 105, 116, 108, 101]⟩, .int .i64 4, .string (Kb.extract 9 Kb.size), .slice none 0 0, .slice none 0 0, .string ⟨#[107, 105, 110, 100]⟩, .int .i64 4, .string Kb, .slice none 0 0, .slice none 0 0, .string ⟨#[101, 100, 105, 116]⟩, .int .i64 6, .string ⟨#[]⟩, .slice ka 1 ca, .slice ia 1 da] 182) = V := ⟨_, rfl⟩; have hb9 := alloc_b hw9; have hr9 := row_at hw9; rw [hw9]; have F9 := F8.trans (FrP.of_none (P := (fun q => (Value.slice po Lo.length co).ownBlock = some q)) (gb_below' hb9)); have b9 := Below.on hb6 (Below.on hb7 hb8); have h119 := obj_row3 (c0 := 3) (Nat.le_trans hb6.size hb7.size) b9.size hka hb9 hr9 HKK.out.1 HKK.out.2.1 HKK.out.2.2.1 HKK.out.2.2.2; have hri9 := row_fr HCV.out.ri ((FrP.refl (fun _ => False) _).drew.trans (FrP.of_none (gb_below' (Below.on b9 hb9)))) (fun _ _ h => h)
      refine hK.out _ _ (fun _ => HS5.out _ F9) (fun hS2 => ?_)
      replace hS2 := hS2 (by decide)
      clear hK K
      try simp only [Act.put, List.setIfInBounds_toArray, List.set_cons_zero, List.set_cons_succ]
      refine wpAnyU_ready (rs := [15]) (by kernel_rfl) (by simp) (AllReadyU.cons (o := { dst := some 80, op := Op.call { callee := Callee.value (Operand.func 119), args := #[Operand.tmp 79], argTypes := #[235] }, type := 25, pos := "lsp.go:236", after := #[{ on := 14, ground := Ground.data }, { on := 12, ground := Ground.chain }], guard := none }) rfl (fun K hK => ?_) AllReadyU.nil)
      rw [if_pos (by rfl)]
      go_simp
      (go_at_call 119; refine h119.mono ?_; rintro e w10 ⟨kb, cb, ib, db, rfl, hkb, hb10⟩; have F10 := F9.trans (FrP.of_none (P := (fun q => (Value.slice po Lo.length co).ownBlock = some q)) (gb_below' hb10)); have hri10 := row_fr hri9 (FrP.of_none (P := fun _ => False) (gb_below' hb10)) (fun _ _ h => h))
      refine hK.out _ _ (fun _ => HS5.out _ F10) (fun hS2 => ?_)
      replace hS2 := hS2 (by decide)
      clear hK K
      try simp only [Act.put, List.setIfInBounds_toArray, List.set_cons_zero, List.set_cons_succ]
      refine wpAnyU_ready (rs := [16]) (by kernel_rfl) (by simp) (AllReadyU.cons (o := { dst := some 81, op := Op.buildSlice 23 1 #[(0, Operand.tmp 80)], type := 23, pos := "lsp.go:236", after := #[{ on := 15, ground := Ground.data }], guard := none }) rfl (fun K hK => ?_) AllReadyU.nil)
      rw [if_pos (by rfl)]
      go_simp
      refine hK.out _ _ (fun _ => HS5.out _ (F10.alloc _)) (fun hS2 => ?_)
      replace hS2 := hS2 (by decide)
      clear hK K
      try simp only [Act.put, List.setIfInBounds_toArray, List.set_cons_zero, List.set_cons_succ]
      refine wpAnyU_ready (rs := [17]) (by kernel_rfl) (by simp) (AllReadyU.cons (o := { dst := some 82, op := Op.call { callee := Callee.builtin Builtin.append, args := #[Operand.tmp 66, Operand.tmp 81], argTypes := #[23, 23] }, type := 23, pos := "lsp.go:236", after := #[{ on := 1, ground := Ground.data }, { on := 16, ground := Ground.data }, { on := 15, ground := Ground.chain }], guard := none }) rfl (fun K hK => ?_) AllReadyU.nil)
      rw [if_pos (by rfl)]
      refine wp_append_own_at (.tmp 66) (.tmp 81) 23 rfl (w.heap.size + 3) 25 i45_ _ 4 72 Tryz.underlying23 hi45 hz450 hz451 hz452 rfl (by decide) _ _ _ rfl (hri10.alloc (.cells #[.int .i64 6, .string ⟨#[]⟩, .slice kb 3 cb, .slice ib 3 db] 25)) ⟨w10.heap.size, 0, none⟩ 1 1 [.int .i64 6, .string ⟨#[]⟩, .slice kb 3 cb, .slice ib 3 db] rfl rfl (new_cells _ _ _) (fun u hu => by simp only [List.mem_cons, List.not_mem_nil, or_false] at hu; rcases hu with rfl | rfl | rfl | rfl <;> rfl) (by unfold maxLen; omega) (by omega) (by have := F10.size; have := HSZ.out; simp; omega) ?_; intro iv2 wx hi2 hgi hat2; have FX := (F10.alloc (.cells #[.int .i64 6, .string ⟨#[]⟩, .slice kb 3 cb, .slice ib 3 db] 25)).trans (FrP.of_row hgi (fun k hk => hk)); obtain ⟨y1, y2, y3⟩ := HS5.out _ FX; obtain ⟨pw, cw, rfl⟩ := row_form hi2
      refine hK.out _ _ (fun _ => HS5.out _ FX) (fun hS2 => ?_)
      replace hS2 := hS2 (by decide)
      clear hK K
      try simp only [Act.put, List.setIfInBounds_toArray, List.set_cons_zero, List.set_cons_succ]
      refine wpAnyU_pure (i := 18) (oi := { dst := some 83, op := Op.fieldAddr 25 (Operand.tmp 9) 3, type := 0, pos := "lsp.go:236", after := #[{ on := 0, ground := Ground.phase }, { on := 1, ground := Ground.phase }, { on := 2, ground := Ground.phase }, { on := 3, ground := Ground.phase }, { on := 4, ground := Ground.phase }, { on := 5, ground := Ground.phase }, { on := 6, ground := Ground.phase }, { on := 7, ground := Ground.phase }, { on := 8, ground := Ground.phase }, { on := 9, ground := Ground.phase }, { on := 10, ground := Ground.phase }, { on := 11, ground := Ground.phase }, { on := 12, ground := Ground.phase }, { on := 13, ground := Ground.phase }, { on := 14, ground := Ground.phase }, { on := 15, ground := Ground.phase }, { on := 16, ground := Ground.phase }, { on := 17, ground := Ground.phase }], guard := none }) (v := ?_) rfl (by kernel_rfl) (by kernel_rfl) (by kernel_rfl) (by kernel_rfl) (fun _ _ _ h => h) (Or.inl ⟨by rfl, ?_⟩) (fun _ => by assumption) ?_
      rotate_left
      · intro w _; go_simp; with_reducible rfl
      try simp only [Act.put, List.setIfInBounds_toArray, List.set_cons_zero, List.set_cons_succ]
      refine wpAnyU_ready (rs := [19]) (by kernel_rfl) (by simp) (AllReadyU.cons (o := { dst := none, op := Op.store 23 (Operand.tmp 83) (Operand.tmp 82), type := 0, pos := "lsp.go:236", after := #[{ on := 18, ground := Ground.data }, { on := 17, ground := Ground.data }, { on := 17, ground := Ground.chain }, { on := 0, ground := Ground.phase }, { on := 1, ground := Ground.phase }, { on := 2, ground := Ground.phase }, { on := 3, ground := Ground.phase }, { on := 4, ground := Ground.phase }, { on := 5, ground := Ground.phase }, { on := 6, ground := Ground.phase }, { on := 7, ground := Ground.phase }, { on := 8, ground := Ground.phase }, { on := 9, ground := Ground.phase }, { on := 10, ground := Ground.phase }, { on := 11, ground := Ground.phase }, { on := 12, ground := Ground.phase }, { on := 13, ground := Ground.phase }, { on := 14, ground := Ground.phase }, { on := 15, ground := Ground.phase }, { on := 16, ground := Ground.phase }, { on := 17, ground := Ground.phase }], guard := none }) rfl (fun K hK => ?_) AllReadyU.nil)
      rw [if_pos (by rfl)]
      go_simp
      refine hK.out _ _ (fun h => absurd h (by decide)) (fun _ => ?_)
      clear hK K
      try simp only [Act.put, List.setIfInBounds_toArray, List.set_cons_zero, List.set_cons_succ]
      refine wpAnyU_done (by kernel_rfl) ?_ _
      go_wp2_with fail
      have b10 := Below.on hb6 (Below.on hb7 (Below.on hb8 (Below.on hb9 hb10)))
      have hadd := CV.add (c := ⟨actJ pos us n l ts ks, kb, cb, ib, db⟩) (HCV.out.below (Below.refl _ _).drew) (World.grownBy.refl wb.drew none) (gb_below' b10) (World.grownBy_alloc w10 (.cells #[.int .i64 6, .string ⟨#[]⟩, .slice kb 3 cb, .slice ib 3 db] 25) none) hgi hat2 hi2 ⟨hkb.keep (Nat.le_refl _) (fun _ _ _ => rfl) (fun q hq _ => hq), Nat.zero_le _⟩
      go_roundw
      case rel => exact ⟨1, Lo ++ [⟨actJ pos us n l ts ks, kb, cb, ib, db⟩], _, rfl, Nat.le_refl _, by rw [List.map_append, HLO.out]; rfl, hadd.1, below_fr HBB.out.drew (Nat.le_refl _) hadd.2 (fun b hb => by
        rcases hb with rfl | hb
        · omega
        · have := (row_lt HCV.out.ri hb).1; omega)⟩
      case measure => simp [RowKit.intOf]
    · obtain rfl : i = 1 := by omega
      obtain ⟨kp, kc, ip, ic, e1, e2, hk⟩ := hCo.made (s := []) ⟨by unfold maxLen; omega, by unfold maxLen; simp, fun s hs => by cases hs⟩
      injection e1 with a1 a2 a3
      injection e2 with a4 a5 a6
      subst a1 a3 a4 a6
      clear a2 a5
      rw [hLo] at hk
      obtain ⟨o0, o1, o2, o3⟩ := cells4 hCo.hd
      rw [hLol] at o3
      have hj9 := HJ.out wr hBo
      have HK := Lib.hid hk
      have HBO := Lib.hid hBo
      clear hCo hBo hLo hLol hk
      go_wp2_with (first
        | (refine store_val rfl (.tmp 6) (.tmp 85) rfl (w.heap.size + 2) rfl (.int .i64 5) (.string ⟨#[]⟩) (.slice none 0 0) (.slice po 1 co) rfl rfl hj9 (fun V9 hV9 hgV _ => ?_)))
      refine bodyPost_ret (ret_val Tryz.results61 rfl hV9) rfl ?_
      exact ⟨_, _, rfl, (HK.out.fr (FrP.of (P := fun q => q = w.heap.size + 2) hgV rfl) (fun q hq e => by omega)).keep (Nat.le_refl _) (fun _ _ _ => rfl) (fun q hq _ => by omega), below_gbz (Below.on HB.out HBO.out) (by omega) hgV⟩
end Go.Proofs.Ls
