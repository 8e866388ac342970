/- lsp.Told at a question that prepares a rename: what is found, and nothing. Printed by gen_ob.py. -/
import Derived.Test.YtaiaiiepbpbmmaaGreatDoorCmNF
namespace Go.Proofs.Ls
open Go.RowKit Go.Maps Go.Lib Go.Proofs.Utf Go.Proofs.Jt Go.Proofs

def kPlace : List UInt8 := [112, 108, 97, 99, 101, 104, 111, 108, 100, 101, 114]
/-- a found name as JSON -/
def prepJ (p q : Int × Int) (nm : List UInt8) : JV := .mk 6 [] [kRange, kPlace] [spanJ p q, strJ nm]
theorem cells8 {w : World} {z : Nat} {a b c d e f g h : Value} {t : TypeId} (hz : w.heap[z]? = some (.cells #[a, b, c, d, e, f, g, h] t (0, 0))) : w.cell? ⟨z, 3, none⟩ = some d ∧ w.cell? ⟨z, 4, none⟩ = some e ∧ w.cell? ⟨z, 5, none⟩ = some f := by
  refine ⟨?_, ?_, ?_⟩ <;> simp [World.cell?, hz]
set_option maxRecDepth 100000 in
set_option maxHeartbeats 8000000 in
theorem told_none {w : World} {dg : Nat} {U T : ByteArray} {v : Int} (hd : w.heap[dg]? = some (.cells #[.string U, .string T, .int .i64 v] 93 (0, 0))) :
    Calls Tryz.prog 61 #[.slice (some ⟨dg, 0, none⟩) 1 1, .agg #[.int .i64 1, .string U, .int .i64 0, .int .i64 0, .int .i64 0, .int .i64 0, .string ⟨#[]⟩], .agg #[.int .i64 0, .string ⟨#[]⟩, .bool false, .int .i64 0, .int .i64 0, .string ⟨#[]⟩, .slice none 0 0, .slice none 0 0]] w fun e w' => e = .returned (.agg #[.int .i64 0, .string ⟨#[]⟩, .slice none 0 0, .slice none 0 0]) ∧ Below w.heap.size w w' := by
  obtain ⟨W1, hW1⟩ : ∃ W, w.alloc (.cells #[.int .i64 1, .string U, .int .i64 0, .int .i64 0, .int .i64 0, .int .i64 0, .string ⟨#[]⟩] 42) = W := ⟨_, rfl⟩
  obtain ⟨W2, hW2⟩ : ∃ W, W1.alloc (.cells #[.int .i64 0, .string ⟨#[]⟩, .bool false, .int .i64 0, .int .i64 0, .string ⟨#[]⟩, .slice none 0 0, .slice none 0 0] 99) = W := ⟨_, rfl⟩
  obtain ⟨W, hW⟩ : ∃ W, W2.alloc (.cells #[.int .i64 0, .string ⟨#[]⟩, .slice none 0 0, .slice none 0 0] 25) = W := ⟨_, rfl⟩
  have bW1 := alloc_b hW1
  have bW2 := alloc_b hW2
  have bW3 := alloc_b hW
  have z1 : W1.heap.size = w.heap.size + 1 := by rw [← hW1]; simp
  have z2 : W2.heap.size = w.heap.size + 2 := by rw [← hW2]; simp; omega
  have bW := Below.on bW1 (Below.on bW2 bW3)
  have r1 := ((Below.on bW2 bW3).block _ (ltS (row_at hW1))).trans (row_at hW1)
  have r2 := (bW3.block _ (ltS (row_at hW2))).trans (row_at hW2)
  rw [z1] at r2
  have y0 : W.cell? ⟨w.heap.size, 0, none⟩ = some (.int .i64 1) := by simp [World.cell?, r1]
  have y1 : W.cell? ⟨w.heap.size, 1, none⟩ = some (.string U) := by simp [World.cell?, r1]
  have hJ : JBox W (w.heap.size + 2) := by rw [← hW, ← z2]; exact JBox.alloc _ _ _ _ _
  have hzW : W.heap.size = w.heap.size + 3 := by rw [← hW]; simp; omega
  have h118 := find118 ((bW.block _ (ltS hd)).trans hd)
  have HJ : Hid (∀ V, Below W.heap.size W V → JBox V (w.heap.size + 2)) := Lib.hid fun V hV => hJ.same (hV.block _ hJ.lt)
  have HB := Lib.hid bW
  have HR2 := Lib.hid r2
  subst hW1
  clear hd bW bW1 bW2 bW3 r1 r2 hJ
  go_enter Tryz.func61, Tryz.ntmps61
  go_wp2_with (first
    | (go_at_call 118; refine h118.mono ?_; rintro e w1 ⟨rfl, hb1⟩
       have r2 := (hb1.block _ (by omega)).trans HR2.out
       have f2 : w1.cell? ⟨w.heap.size + 1, 2, none⟩ = some (.bool false) := by simp [World.cell?, r2]
       have hj1 := HJ.out w1 hb1)
    | (refine store_val rfl (.tmp 6) (.tmp 86) rfl (w.heap.size + 2) rfl (.int .i64 0) (.string ⟨#[]⟩) (.slice none 0 0) (.slice none 0 0) rfl rfl hj1 (fun V9 hV9 hgV _ => ?_)))
  refine bodyPost_ret (ret_val Tryz.results61 rfl hV9) rfl ?_
  exact ⟨rfl, below_gbz (Below.on HB.out hb1) (by omega) hgV⟩
set_option maxRecDepth 100000 in
set_option maxHeartbeats 16000000 in
theorem told_prep {w : World} (hE : ∀ V, Below w.heap.size w V → Env V) {dg : Nat} {U T NM : ByteArray} {nm : List UInt8} {v fr till : Int} (p q : Int × Int) (hd : w.heap[dg]? = some (.cells #[.string U, .string T, .int .i64 v] 93 (0, 0)))
    (h0 : (0 ≤ p.1 ∧ p.1 ≤ 9223372036854775807) ∧ (0 ≤ p.2 ∧ p.2 ≤ 9223372036854775807)) (h1 : (0 ≤ q.1 ∧ q.1 ≤ 9223372036854775807) ∧ (0 ≤ q.2 ∧ q.2 ≤ 9223372036854775807)) (hA : AtC w T fr p) (hC : AtC w T till q) (hN : (⟨nm.toArray⟩ : ByteArray) = NM) (hl : nm.length ≤ maxLen) :
    Calls Tryz.prog 61 #[.slice (some ⟨dg, 0, none⟩) 1 1, .agg #[.int .i64 1, .string U, .int .i64 0, .int .i64 0, .int .i64 0, .int .i64 0, .string ⟨#[]⟩], .agg #[.int .i64 0, .string ⟨#[]⟩, .bool true, .int .i64 fr, .int .i64 till, .string NM, .slice none 0 0, .slice none 0 0]] w fun e w' => ∃ kp kc ip ic, e = .returned (.agg #[.int .i64 6, .string ⟨#[]⟩, .slice kp 2 kc, .slice ip 2 ic]) ∧ KP w' (w.heap.size ≤ ·) (prepJ p q nm) kp kc ip ic ∧ Below w.heap.size w w' := by
  obtain ⟨W1, hW1⟩ : ∃ W, w.alloc (.cells #[.int .i64 1, .string U, .int .i64 0, .int .i64 0, .int .i64 0, .int .i64 0, .string ⟨#[]⟩] 42) = W := ⟨_, rfl⟩
  obtain ⟨W2, hW2⟩ : ∃ W, W1.alloc (.cells #[.int .i64 0, .string ⟨#[]⟩, .bool true, .int .i64 fr, .int .i64 till, .string NM, .slice none 0 0, .slice none 0 0] 99) = W := ⟨_, rfl⟩
  obtain ⟨W, hW⟩ : ∃ W, W2.alloc (.cells #[.int .i64 0, .string ⟨#[]⟩, .slice none 0 0, .slice none 0 0] 25) = W := ⟨_, rfl⟩
  have bW1 := alloc_b hW1
  have bW2 := alloc_b hW2
  have bW3 := alloc_b hW
  have z1 : W1.heap.size = w.heap.size + 1 := by rw [← hW1]; simp
  have z2 : W2.heap.size = w.heap.size + 2 := by rw [← hW2]; simp; omega
  have bW := Below.on bW1 (Below.on bW2 bW3)
  have r1 := ((Below.on bW2 bW3).block _ (ltS (row_at hW1))).trans (row_at hW1)
  have r2 := (bW3.block _ (ltS (row_at hW2))).trans (row_at hW2)
  rw [z1] at r2
  have y0 : W.cell? ⟨w.heap.size, 0, none⟩ = some (.int .i64 1) := by simp [World.cell?, r1]
  have y1 : W.cell? ⟨w.heap.size, 1, none⟩ = some (.string U) := by simp [World.cell?, r1]
  have hJ : JBox W (w.heap.size + 2) := by rw [← hW, ← z2]; exact JBox.alloc _ _ _ _ _
  have hzW : W.heap.size = w.heap.size + 3 := by rw [← hW]; simp; omega
  have h118 := find118 ((bW.block _ (ltS hd)).trans hd)
  have HJ : Hid (∀ V, Below W.heap.size W V → JBox V (w.heap.size + 2)) := Lib.hid fun V hV => hJ.same (hV.block _ hJ.lt)
  have HB := Lib.hid bW
  have H120 : Hid (∀ V, Below W.heap.size W V → Calls Tryz.prog 120 #[.string T, .int .i64 fr, .int .i64 till] V fun e w' => ∃ kp kc ip ic, e = .returned (.agg #[.int .i64 6, .string ⟨#[]⟩, .slice kp 2 kc, .slice ip 2 ic]) ∧ KP w' (V.heap.size ≤ ·) (spanJ p q) kp kc ip ic ∧ Below V.heap.size V w') := Lib.hid fun V hV =>
    span120 (fun V' hV' => hE V' (Below.on (Below.on bW hV) hV')) T fr till p q h0 h1 (hA.below (Below.on bW hV)) (hC.below (Below.on bW hV))
  have HR2 := Lib.hid r2
  have HNM := Lib.hid (And.intro hN hl)
  subst hW1
  clear hE hd bW bW1 bW2 bW3 r1 r2 hJ h0 h1 hA hC hN hl
  go_enter Tryz.func61, Tryz.ntmps61
  go_upto_region 5 with (first
    | (go_at_call 118; refine h118.mono ?_; rintro e w1 ⟨rfl, hb1⟩
       have r2 := (hb1.block _ (by omega)).trans HR2.out
       have f2 : w1.cell? ⟨w.heap.size + 1, 2, none⟩ = some (.bool true) := by simp [World.cell?, r2]))
  have bd : Below w1.heap.size w1 w1.drew := (Below.refl _ _).drew
  have hSD : w1.drew.heap[w.heap.size + 1]? = some (.cells #[.int .i64 0, .string ⟨#[]⟩, .bool true, .int .i64 fr, .int .i64 till, .string NM, .slice none 0 0, .slice none 0 0] 99 (0, 0)) ∧ JBox w1.drew (w.heap.size + 2) := ⟨r2, HJ.out w1.drew (Below.on hb1 bd)⟩
  have h120 := H120.out w1.drew (Below.on hb1 bd)
  have hsz1 : W.heap.size ≤ w1.drew.heap.size := (Below.on hb1 bd).size
  have HBd := Lib.hid (Below.on HB.out (Below.on hb1 bd))
  clear h118 y0 y1 f2 r2
  refine wp_region_held_drew (S := (fun V => V.heap[w.heap.size + 1]? = some (.cells #[.int .i64 0, .string ⟨#[]⟩, .bool true, .int .i64 fr, .int .i64 till, .string NM, .slice none 0 0, .slice none 0 0] 99 (0, 0)) ∧ JBox V (w.heap.size + 2))) (by kernel_rfl) hSD (fun hHeld => ?_)
  refine wpAnyH_take (i := 0) (oi := { dst := some 29, op := Op.move (Operand.tmp 7), type := 9, pos := "lsp.go:228", after := #[], guard := none }) (v := ?_) rfl (by kernel_rfl) (by kernel_rfl) (by kernel_rfl) (fun _ _ _ h => h) (Or.inl ⟨by rfl, ?_⟩) (by assumption) ?_
  rotate_left
  · intro wx hS; go_simp; with_reducible rfl
  try simp only [Act.put, aSA, aSZ, aSS]
  refine wpAnyH_take (i := 1) (oi := { dst := some 30, op := Op.fieldAddr 99 (Operand.tmp 5) 3, type := 0, pos := "lsp.go:228", after := #[], guard := none }) (v := ?_) rfl (by kernel_rfl) (by kernel_rfl) (by kernel_rfl) (fun _ _ _ h => h) (Or.inl ⟨by rfl, ?_⟩) (by assumption) ?_
  rotate_left
  · intro wx hS; go_simp; with_reducible rfl
  try simp only [Act.put, aSA, aSZ, aSS]
  refine wpAnyH_take (i := 2) (oi := { dst := some 31, op := Op.load 3 (Operand.tmp 30), type := 3, pos := "lsp.go:228", after := #[{ on := 1, ground := Ground.data }], guard := none }) (v := ?_) rfl (by kernel_rfl) (by kernel_rfl) (by kernel_rfl) (fun _ _ _ h => h) (Or.inl ⟨by rfl, ?_⟩) (by assumption) ?_
  rotate_left
  · intro wx hS; obtain ⟨hp, _⟩ := hS; obtain ⟨k3, k4, k5⟩ := cells8 hp; go_simp; with_reducible rfl
  try simp only [Act.put, aSA, aSZ, aSS]
  refine wpAnyH_take (i := 3) (oi := { dst := some 32, op := Op.fieldAddr 99 (Operand.tmp 5) 4, type := 0, pos := "lsp.go:228", after := #[], guard := none }) (v := ?_) rfl (by kernel_rfl) (by kernel_rfl) (by kernel_rfl) (fun _ _ _ h => h) (Or.inl ⟨by rfl, ?_⟩) (by assumption) ?_
  rotate_left
  · intro wx hS; go_simp; with_reducible rfl
  try simp only [Act.put, aSA, aSZ, aSS]
  refine wpAnyH_take (i := 4) (oi := { dst := some 33, op := Op.load 3 (Operand.tmp 32), type := 3, pos := "lsp.go:228", after := #[{ on := 3, ground := Ground.data }], guard := none }) (v := ?_) rfl (by kernel_rfl) (by kernel_rfl) (by kernel_rfl) (fun _ _ _ h => h) (Or.inl ⟨by rfl, ?_⟩) (by assumption) ?_
  rotate_left
  · intro wx hS; obtain ⟨hp, _⟩ := hS; obtain ⟨k3, k4, k5⟩ := cells8 hp; go_simp; with_reducible rfl
  try simp only [Act.put, aSA, aSZ, aSS]
  refine wpAnyH_take (i := 7) (oi := { dst := some 36, op := Op.fieldAddr 99 (Operand.tmp 5) 5, type := 0, pos := "lsp.go:228", after := #[], guard := none }) (v := ?_) rfl (by kernel_rfl) (by kernel_rfl) (by kernel_rfl) (fun _ _ _ h => h) (Or.inl ⟨by rfl, ?_⟩) (by assumption) ?_
  rotate_left
  · intro wx hS; go_simp; with_reducible rfl
  try simp only [Act.put, aSA, aSZ, aSS]
  refine wpAnyH_take (i := 8) (oi := { dst := some 37, op := Op.load 9 (Operand.tmp 36), type := 9, pos := "lsp.go:228", after := #[{ on := 7, ground := Ground.data }], guard := none }) (v := ?_) rfl (by kernel_rfl) (by kernel_rfl) (by kernel_rfl) (fun _ _ _ h => h) (Or.inl ⟨by rfl, ?_⟩) (by assumption) ?_
  rotate_left
  · intro wx hS; obtain ⟨hp, _⟩ := hS; obtain ⟨k3, k4, k5⟩ := cells8 hp; go_simp; with_reducible rfl
  try simp only [Act.put, aSA, aSZ, aSS]
  refine wpAnyH_ready (rs := [5]) (by kernel_rfl) (by simp) (AllReadyH.cons (o := { dst := some 34, op := Op.call { callee := Callee.value (Operand.func 120), args := #[Operand.tmp 29, Operand.tmp 31, Operand.tmp 33], argTypes := #[9, 3, 3] }, type := 25, pos := "lsp.go:228", after := #[{ on := 0, ground := Ground.data }, { on := 2, ground := Ground.data }, { on := 4, ground := Ground.data }], guard := none }) rfl (fun K' hK => ?_) AllReadyH.nil)
  rw [if_pos (by rfl)]
  go_simp
  go_at_call 120
  refine h120.mono ?_
  rintro e w2 ⟨ka, ca, ia, da, rfl, hka, hb2⟩
  have hS2 : w2.heap[w.heap.size + 1]? = some (.cells #[.int .i64 0, .string ⟨#[]⟩, .bool true, .int .i64 fr, .int .i64 till, .string NM, .slice none 0 0, .slice none 0 0] 99 (0, 0)) ∧ JBox w2 (w.heap.size + 2) := ⟨(hb2.block _ (ltS hSD.1)).trans hSD.1, hSD.2.same (hb2.block _ hSD.2.lt)⟩
  have h121 := text121 NM w2
  refine hK.out _ _ hS2 (fun hH5 => ?_)
  clear hK K'
  try simp only [Act.put, aSA, aSZ, aSS]
  refine wpAnyH_take (i := 6) (oi := { dst := some 35, op := Op.build 182 #[(0, Operand.const (Value.string { data := #[114, 97, 110, 103, 101] })), (1, Operand.tmp 34)], type := 182, pos := "lsp.go:228", after := #[{ on := 5, ground := Ground.data }], guard := none }) (v := ?_) rfl (by kernel_rfl) (by kernel_rfl) (by kernel_rfl) (fun _ _ _ h => h) (Or.inl ⟨by rfl, ?_⟩) (by assumption) ?_
  rotate_left
  · intro wx hS; go_simp; with_reducible rfl
  try simp only [Act.put, aSA, aSZ, aSS]
  refine wpAnyH_ready (rs := [9]) (by kernel_rfl) (by simp) (AllReadyH.cons (o := { dst := some 38, op := Op.call { callee := Callee.value (Operand.func 121), args := #[Operand.tmp 37], argTypes := #[9] }, type := 25, pos := "lsp.go:228", after := #[{ on := 8, ground := Ground.data }, { on := 5, ground := Ground.chain }], guard := none }) rfl (fun K' hK => ?_) AllReadyH.nil)
  rw [if_pos (by rfl)]
  go_simp
  go_at_call 121
  refine h121.mono ?_
  rintro e w3 ⟨rfl, hb3⟩
  have hS3 : w3.heap[w.heap.size + 1]? = some (.cells #[.int .i64 0, .string ⟨#[]⟩, .bool true, .int .i64 fr, .int .i64 till, .string NM, .slice none 0 0, .slice none 0 0] 99 (0, 0)) ∧ JBox w3 (w.heap.size + 2) := ⟨(hb3.block _ (ltS hS2.1)).trans hS2.1, hS2.2.same (hb3.block _ hS2.2.lt)⟩
  refine hK.out _ _ hS3 (fun hH9 => ?_)
  clear hK K'
  try simp only [Act.put, aSA, aSZ, aSS]
  refine wpAnyH_take (i := 10) (oi := { dst := some 39, op := Op.build 182 #[(0, Operand.const (Value.string { data := #[112, 108, 97, 99, 101, 104, 111, 108, 100, 101, 114] })), (1, Operand.tmp 38)], type := 182, pos := "lsp.go:228", after := #[{ on := 9, ground := Ground.data }], guard := none }) (v := ?_) rfl (by kernel_rfl) (by kernel_rfl) (by kernel_rfl) (fun _ _ _ h => h) (Or.inl ⟨by rfl, ?_⟩) (by assumption) ?_
  rotate_left
  · intro wx hS; go_simp; with_reducible rfl
  try simp only [Act.put, aSA, aSZ, aSS]
  refine wpAnyH_ready (rs := [11]) (by kernel_rfl) (by simp) (AllReadyH.cons (o := { dst := some 40, op := Op.buildSlice 235 2 #[(0, Operand.tmp 35), (1, Operand.tmp 39)], type := 235, pos := "lsp.go:228", after := #[{ on := 6, ground := Ground.data }, { on := 10, ground := Ground.data }], guard := none }) rfl (fun K' hK => ?_) AllReadyH.nil)
  rw [if_pos (by rfl)]
  go_simp
  obtain ⟨w4, hw4⟩ : ∃ V, w3.alloc (.cells #[.string ⟨#[114, 97, 110, 103, 101]⟩, .int .i64 6, .string ⟨#[]⟩, .slice ka 2 ca, .slice ia 2 da, .string ⟨#[112, 108, 97, 99, 101, 104, 111, 108, 100, 101, 114]⟩, .int .i64 4, .string NM, .slice none 0 0, .slice none 0 0] 182) = V := ⟨_, rfl⟩
  have hb4 := alloc_b hw4
  have hr4 := row_at hw4
  rw [hw4]
  have hS4 : w4.heap[w.heap.size + 1]? = some (.cells #[.int .i64 0, .string ⟨#[]⟩, .bool true, .int .i64 fr, .int .i64 till, .string NM, .slice none 0 0, .slice none 0 0] 99 (0, 0)) ∧ JBox w4 (w.heap.size + 2) := ⟨(hb4.block _ (ltS hS3.1)).trans hS3.1, hS3.2.same (hb4.block _ hS3.2.lt)⟩
  have hz4 : w1.drew.heap.size ≤ w4.heap.size := by have := hb2.size; have := hb3.size; have := hb4.size; omega
  have h119 := object_row (w := w4) (g := w3.heap.size) (c0 := 2) (n := 2) (B := w1.drew.heap.size) [(kRange, ⟨spanJ p q, ka, ca, ia, da⟩), (kPlace, leafI (strJ nm))] (by rw [hr4, ← HNM.out.1]; rfl) rfl (by omega) hz4 (fun f hf => by
        simp only [List.mem_cons, List.not_mem_nil, or_false] at hf
        rcases hf with rfl | rfl
        · exact ⟨kp_on' (kp_on' hka hb3) hb4, Nat.zero_le _⟩
        · exact ⟨KP.leaf _ _ _ _, HNM.out.2⟩) (fun f hf => by
        simp only [List.mem_cons, List.not_mem_nil, or_false] at hf
        rcases hf with rfl | rfl
        · exact (by decide : kRange.length ≤ maxLen)
        · exact (by decide : kPlace.length ≤ maxLen)) [kRange, kPlace] [spanJ p q, strJ nm] rfl rfl
  refine hK.out _ _ hS4 (fun hH11 => ?_)
  clear hK K'
  try simp only [Act.put, aSA, aSZ, aSS]
  refine wpAnyH_ready (rs := [12]) (by kernel_rfl) (by simp) (AllReadyH.cons (o := { dst := some 41, op := Op.call { callee := Callee.value (Operand.func 119), args := #[Operand.tmp 40], argTypes := #[235] }, type := 25, pos := "lsp.go:228", after := #[{ on := 11, ground := Ground.data }, { on := 9, ground := Ground.chain }], guard := none }) rfl (fun K' hK => ?_) AllReadyH.nil)
  rw [if_pos (by rfl)]
  go_simp
  go_at_call 119
  refine h119.mono ?_
  rintro e w5 ⟨kp, kc, ip, ic, rfl, hkp, hb5⟩
  have hS5 : w5.heap[w.heap.size + 1]? = some (.cells #[.int .i64 0, .string ⟨#[]⟩, .bool true, .int .i64 fr, .int .i64 till, .string NM, .slice none 0 0, .slice none 0 0] 99 (0, 0)) ∧ JBox w5 (w.heap.size + 2) := ⟨(hb5.block _ (ltS hS4.1)).trans hS4.1, hS4.2.same (hb5.block _ hS4.2.lt)⟩
  have hbw5 := Below.on HBd.out (Below.on hb2 (Below.on hb3 (Below.on hb4 hb5)))
  refine hK.out _ _ hS5 (fun hH12 => ?_)
  clear hK K'
  try simp only [Act.put, aSA, aSZ, aSS]
  refine wpAnyH_ready (rs := [13]) (by kernel_rfl) (by simp) (AllReadyH.cons (o := { dst := none, op := Op.store 25 (Operand.tmp 6) (Operand.tmp 41), type := 0, pos := "lsp.go:228", after := #[{ on := 12, ground := Ground.data }, { on := 12, ground := Ground.chain }, { on := 0, ground := Ground.phase }, { on := 1, ground := Ground.phase }, { on := 2, ground := Ground.phase }, { on := 3, ground := Ground.phase }, { on := 4, ground := Ground.phase }, { on := 5, ground := Ground.phase }, { on := 6, ground := Ground.phase }, { on := 7, ground := Ground.phase }, { on := 8, ground := Ground.phase }, { on := 9, ground := Ground.phase }, { on := 10, ground := Ground.phase }, { on := 11, ground := Ground.phase }, { on := 12, ground := Ground.phase }], guard := none }) rfl (fun K' hK => ?_) AllReadyH.nil)
  rw [if_pos (by rfl)]
  refine wp_store_J (.tmp 6) (.tmp 41) rfl (w.heap.size + 2) rfl (.int .i64 6) (.string ⟨#[]⟩) (.slice kp 2 kc) (.slice ip 2 ic) rfl ⟨rfl, rfl, rfl, rfl⟩ rfl hS5.2 (fun V6 hV6 hg6 _ => ?_)
  refine hK.out _ _ ⟨(hg6.block _ (ltS hS5.1) (by simp)).trans hS5.1, ⟨_, _, _, _, hV6⟩⟩ (fun hH13 => ?_)
  clear hK K'
  try simp only [Act.put]
  refine wpAnyH_done (by kernel_rfl) ?_ _
  go_wp2_with fail
  refine bodyPost_ret (ret_val Tryz.results61 rfl hV6) rfl ?_
  exact ⟨kp, kc, ip, ic, rfl, (hkp.fr (FrP.of (P := fun q => q = w.heap.size + 2) hg6 rfl) (fun q hq e => by omega)).keep (Nat.le_refl _) (fun _ _ _ => rfl) (fun q hq _ => by omega), below_gbz hbw5 (by omega) hg6⟩
end Go.Proofs.Ls
