/- lsp.Hello. Printed by gen_od.py. -/
import Derived.Test.YtaiaiiepbpbmmaaGreatDoorCmKN
namespace Go.Proofs.Ls
open Go.RowKit Go.Maps Go.Lib Go.Proofs.Utf Go.Proofs.Jt Go.Proofs

/-- what a client is told first -/
def helloJ : JV := .mk 6 [] [[99, 97, 112, 97, 98, 105, 108, 105, 116, 105, 101, 115]] [.mk 6 [] [[112, 111, 115, 105, 116, 105, 111, 110, 69, 110, 99, 111, 100, 105, 110, 103], [116, 101, 120, 116, 68, 111, 99, 117, 109, 101, 110, 116, 83, 121, 110, 99], [114, 101, 110, 97, 109, 101, 80, 114, 111, 118, 105, 100, 101, 114], [99, 111, 100, 101, 65, 99, 116, 105, 111, 110, 80, 114, 111, 118, 105, 100, 101, 114]] [.mk 4 [117, 116, 102, 45, 49, 54] [] [], .mk 6 [] [[111, 112, 101, 110, 67, 108, 111, 115, 101], [99, 104, 97, 110, 103, 101]] [.mk 2 [] [] [], .mk 3 [50] [] []], .mk 6 [] [[112, 114, 101, 112, 97, 114, 101, 80, 114, 111, 118, 105, 100, 101, 114]] [.mk 2 [] [] []], .mk 6 [] [[99, 111, 100, 101, 65, 99, 116, 105, 111, 110, 75, 105, 110, 100, 115]] [.mk 5 [] [] [.mk 4 [114, 101, 102, 97, 99, 116, 111, 114, 46, 105, 110, 108, 105, 110, 101] [] [], .mk 4 [114, 101, 102, 97, 99, 116, 111, 114, 46, 101, 120, 116, 114, 97, 99, 116] [] []]]]]
theorem itoa2 : (⟨(itoa 2).toArray⟩ : ByteArray) = ⟨#[50]⟩ := by decide +kernel
/-- a row of two texts, as an array -/
theorem arr_two {w : World} {B g : Nat} {a b : List UInt8} (hr : w.heap[g]? = some (.cells #[.int .i64 4, .string ⟨a.toArray⟩, .slice none 0 0, .slice none 0 0, .int .i64 4, .string ⟨b.toArray⟩, .slice none 0 0, .slice none 0 0] 25 (0, 0))) (hB : B ≤ g) (ha : a.length ≤ maxLen := by exact Nat.le_of_ble_eq_true rfl) (hb : b.length ≤ maxLen := by exact Nat.le_of_ble_eq_true rfl) : KP w (B ≤ ·) (.mk 5 [] [] [.mk 4 a [] [], .mk 4 b [] []]) none 0 (some ⟨g, 0, none⟩) 2 := by
  have ri : w.ownsRow B 25 4 (.slice (some ⟨g, 0, none⟩) 2 2) 2 (rowC [leafI (.mk 4 a [] []), leafI (.mk 4 b [] [])]) := ⟨rfl, .inr ⟨g, 2, _, rfl, hB, hr, Nat.le_refl _, by decide, rfl, rfl⟩⟩
  exact rows_kp (w := w) (B := B) (k := 5) (ks := []) (L := [leafI (.mk 4 a [] []), leafI (.mk 4 b [] [])]) (World.ownsRow_nil _ _ _ _) ri rfl rfl (fun c hc => by
    simp only [List.mem_cons, List.not_mem_nil, or_false] at hc
    rcases hc with rfl | rfl
    · exact ⟨KP.leaf _ _ _ _, ha⟩
    · exact ⟨KP.leaf _ _ _ _, hb⟩) ⟨Nat.le_of_ble_eq_true rfl, Nat.le_of_ble_eq_true rfl, fun s hs => by cases hs⟩
set_option maxRecDepth 100000 in
set_option maxHeartbeats 64000000 in
theorem hello67 {w : World} (hE : ∀ V, Below w.heap.size w V → Env V) : Calls Tryz.prog 67 #[] w fun e w' => ∃ kp kc ip ic, e = .returned (.agg #[.int .i64 6, .string ⟨#[]⟩, .slice kp 1 kc, .slice ip 1 ic]) ∧ KP w' (w.heap.size ≤ ·) helloJ kp kc ip ic ∧ Below w.heap.size w w' := by
  obtain ⟨W1, hW1⟩ : ∃ W, w.alloc (.cells #[.int .i64 0, .string ⟨#[]⟩, .slice none 0 0, .slice none 0 0] 25) = W := ⟨_, rfl⟩
  have bW1 := alloc_b hW1
  have z1 : W1.heap.size = w.heap.size + 1 := by rw [← hW1]; simp
  have hJ : JBox W1 w.heap.size := by rw [← hW1]; exact JBox.alloc _ _ _ _ _
  have HE := Lib.hid hE
  have HJ := Lib.hid hJ
  have HB1 := Lib.hid bW1
  clear hE hJ bW1
  go_enter Tryz.func67, Tryz.ntmps67
  go_upto_region 2 with fail
  obtain ⟨W2, hW2⟩ : ∃ V, W1.alloc (.cells #[.int .i64 2, .string ⟨#[]⟩, .slice none 0 0, .slice none 0 0] 25) = V := ⟨_, rfl⟩
  rw [hW2]
  have bW2 := alloc_b hW2
  have hy := row_at hW2
  rw [z1] at hy
  have HW : Hid (Below w.heap.size w W2.drew) := Lib.hid (Below.on HB1.out bW2.drew)
  have hS0 : W2.drew.heap[w.heap.size + 1]? = some (.cells #[.int .i64 2, .string ⟨#[]⟩, .slice none 0 0, .slice none 0 0] 25 (0, 0)) ∧ JBox W2.drew w.heap.size := ⟨hy, HJ.out.same (bW2.block _ HJ.out.lt)⟩
  obtain ⟨B, hBe⟩ : ∃ B, w.heap.size + 2 = B := ⟨_, rfl⟩
  have hBz : W2.drew.heap.size = w.heap.size + 2 := by show W2.heap.size = _; rw [← hW2]; simp; omega
  have hBw : w.heap.size + 2 ≤ B := by omega
  have hBd : B ≤ W2.drew.heap.size := by omega
  have hbw : Below W2.drew.heap.size W2.drew W2.drew := Below.refl _ _
  clear hy bW2 hW2 hBe hBz
  refine wp_region_held_drew (S := (fun V => V.heap[w.heap.size + 1]? = some (.cells #[.int .i64 2, .string ⟨#[]⟩, .slice none 0 0, .slice none 0 0] 25 (0, 0)) ∧ JBox V w.heap.size)) (by kernel_rfl) hS0 (fun hHeld => ?_)
  clear hHeld
  obtain ⟨wd, hwd⟩ : ∃ V, W2.drew = V := ⟨_, rfl⟩
  rw [hwd] at hS0 hbw HW hBd ⊢
  refine wpAnyH_take (i := 2) (oi := { dst := some 5, op := Op.load 25 (Operand.tmp 1), type := 25, pos := "lsp.go:246", after := #[], guard := none }) (v := ?_) rfl (by kernel_rfl) (by kernel_rfl) (by kernel_rfl) (fun _ _ _ h => h) (Or.inl ⟨by rfl, ?_⟩) (by assumption) ?_
  rotate_left
  · intro wx hS; obtain ⟨hp, _⟩ := hS; obtain ⟨k0, k1, k2, k3⟩ := cells4 hp; go_simp; with_reducible rfl
  try simp only [Act.put, aSA, aSZ, aSS]
  refine wpAnyH_take (i := 9) (oi := { dst := some 12, op := Op.load 25 (Operand.tmp 1), type := 25, pos := "lsp.go:246", after := #[], guard := none }) (v := ?_) rfl (by kernel_rfl) (by kernel_rfl) (by kernel_rfl) (fun _ _ _ h => h) (Or.inl ⟨by rfl, ?_⟩) (by assumption) ?_
  rotate_left
  · intro wx hS; obtain ⟨hp, _⟩ := hS; obtain ⟨k0, k1, k2, k3⟩ := cells4 hp; go_simp; with_reducible rfl
  try simp only [Act.put, aSA, aSZ, aSS]
  refine wpAnyH_take (i := 3) (oi := { dst := some 6, op := Op.build 182 #[(0, Operand.const (Value.string { data := #[111, 112, 101, 110, 67, 108, 111, 115, 101] })), (1, Operand.tmp 5)], type := 182, pos := "lsp.go:246", after := #[{ on := 2, ground := Ground.data }], guard := none }) (v := ?_) rfl (by kernel_rfl) (by kernel_rfl) (by kernel_rfl) (fun _ _ _ h => h) (Or.inl ⟨by rfl, ?_⟩) (by assumption) ?_
  rotate_left
  · intro wx hS; go_simp; with_reducible rfl
  try simp only [Act.put, aSA, aSZ, aSS]
  refine wpAnyH_take (i := 10) (oi := { dst := some 13, op := Op.build 182 #[(0, Operand.const (Value.string { data := #[112, 114, 101, 112, 97, 114, 101, 80, 114, 111, 118, 105, 100, 101, 114] })), (1, Operand.tmp 12)], type := 182, pos := "lsp.go:246", after := #[{ on := 9, ground := Ground.data }], guard := none }) (v := ?_) rfl (by kernel_rfl) (by kernel_rfl) (by kernel_rfl) (fun _ _ _ h => h) (Or.inl ⟨by rfl, ?_⟩) (by assumption) ?_
  rotate_left
  · intro wx hS; go_simp; with_reducible rfl
  try simp only [Act.put, aSA, aSZ, aSS]
  refine wpAnyH_ready (rs := [0, 11]) (by kernel_rfl) (by simp) (AllReadyH.cons (o := { dst := some 3, op := Op.call { callee := Callee.value (Operand.func 121), args := #[Operand.const (Value.string { data := #[117, 116, 102, 45, 49, 54] })], argTypes := #[9] }, type := 25, pos := "lsp.go:247", after := #[], guard := none }) rfl (fun K' hK => ?a1) (AllReadyH.cons (o := { dst := some 14, op := Op.buildSlice 235 1 #[(0, Operand.tmp 13)], type := 235, pos := "lsp.go:246", after := #[{ on := 10, ground := Ground.data }], guard := none }) rfl (fun K' hK => ?b1) AllReadyH.nil))
  case' a1 =>
    rw [if_pos (by rfl)]
    go_simp
    go_at_call 121
    refine (text121 _ _).mono ?_
    rintro e w0 ⟨rfl, hb0⟩
    replace hS0 : w0.heap[w.heap.size + 1]? = some (.cells #[.int .i64 2, .string ⟨#[]⟩, .slice none 0 0, .slice none 0 0] 25 (0, 0)) ∧ JBox w0 w.heap.size := ⟨(hb0.block _ (ltS hS0.1)).trans hS0.1, hS0.2.same (hb0.block _ hS0.2.lt)⟩
    replace hbw := Below.on hbw hb0
    refine hK.out _ _ hS0 (fun hH0 => ?_)
    clear hK K'
    try simp only [Act.put, aSA, aSZ, aSS]
    refine wpAnyH_take (i := 1) (oi := { dst := some 4, op := Op.build 182 #[(0, Operand.const (Value.string { data := #[112, 111, 115, 105, 116, 105, 111, 110, 69, 110, 99, 111, 100, 105, 110, 103] })), (1, Operand.tmp 3)], type := 182, pos := "lsp.go:246", after := #[{ on := 0, ground := Ground.data }], guard := none }) (v := ?_) rfl (by kernel_rfl) (by kernel_rfl) (by kernel_rfl) (fun _ _ _ h => h) (Or.inl ⟨by rfl, ?_⟩) (by assumption) ?_
    rotate_left
    · intro wx hS; go_simp; with_reducible rfl
    try simp only [Act.put, aSA, aSZ, aSS]
    refine wpAnyH_ready (rs := [4, 11]) (by kernel_rfl) (by simp) (AllReadyH.cons (o := { dst := some 7, op := Op.call { callee := Callee.value (Operand.func 126), args := #[Operand.const (Value.int IntKind.i64 2)], argTypes := #[2] }, type := 25, pos := "lsp.go:248", after := #[{ on := 0, ground := Ground.chain }], guard := none }) rfl (fun K' hK => ?a2) (AllReadyH.cons (o := { dst := some 14, op := Op.buildSlice 235 1 #[(0, Operand.tmp 13)], type := 235, pos := "lsp.go:246", after := #[{ on := 10, ground := Ground.data }], guard := none }) rfl (fun K' hK => ?b2) AllReadyH.nil))
    case' a2 =>
      rw [if_pos (by rfl)]
      go_simp
      go_at_call 126
      refine (whole126 2 (by decide) (by decide) ⟨#[50]⟩ itoa2 _ (fun V hV => HE.out V (Below.on HW.out (Below.on hbw hV)))).mono ?_
      rintro e w4 ⟨rfl, hb4⟩
      replace hS0 : w4.heap[w.heap.size + 1]? = some (.cells #[.int .i64 2, .string ⟨#[]⟩, .slice none 0 0, .slice none 0 0] 25 (0, 0)) ∧ JBox w4 w.heap.size := ⟨(hb4.block _ (ltS hS0.1)).trans hS0.1, hS0.2.same (hb4.block _ hS0.2.lt)⟩
      replace hbw := Below.on hbw hb4
      refine hK.out _ _ hS0 (fun hH4 => ?_)
      clear hK K'
      try simp only [Act.put, aSA, aSZ, aSS]
      refine wpAnyH_take (i := 5) (oi := { dst := some 8, op := Op.build 182 #[(0, Operand.const (Value.string { data := #[99, 104, 97, 110, 103, 101] })), (1, Operand.tmp 7)], type := 182, pos := "lsp.go:246", after := #[{ on := 4, ground := Ground.data }], guard := none }) (v := ?_) rfl (by kernel_rfl) (by kernel_rfl) (by kernel_rfl) (fun _ _ _ h => h) (Or.inl ⟨by rfl, ?_⟩) (by assumption) ?_
      rotate_left
      · intro wx hS; go_simp; with_reducible rfl
      try simp only [Act.put, aSA, aSZ, aSS]
      refine wpAnyH_ready (rs := [6, 11]) (by kernel_rfl) (by simp) (AllReadyH.cons (o := { dst := some 9, op := Op.buildSlice 235 2 #[(0, Operand.tmp 6), (1, Operand.tmp 8)], type := 235, pos := "lsp.go:246", after := #[{ on := 3, ground := Ground.data }, { on := 5, ground := Ground.data }], guard := none }) rfl (fun K' hK => ?a3) (AllReadyH.cons (o := { dst := some 14, op := Op.buildSlice 235 1 #[(0, Operand.tmp 13)], type := 235, pos := "lsp.go:246", after := #[{ on := 10, ground := Ground.data }], guard := none }) rfl (fun K' hK => ?b3) AllReadyH.nil))
      case' a3 =>
        rw [if_pos (by rfl)]
        go_simp
        obtain ⟨w6, hw6⟩ : ∃ V, w4.alloc (.cells #[.string ⟨#[111, 112, 101, 110, 67, 108, 111, 115, 101]⟩, .int .i64 2, .string ⟨#[]⟩, .slice none 0 0, .slice none 0 0, .string ⟨#[99, 104, 97, 110, 103, 101]⟩, .int .i64 3, .string ⟨#[50]⟩, .slice none 0 0, .slice none 0 0] 182) = V := ⟨_, rfl⟩
        have hb6 := alloc_b hw6
        have hr6 := row_at hw6
        rw [hw6]
        obtain ⟨g6, hg6⟩ : ∃ q, w4.heap.size = q := ⟨_, rfl⟩
        rw [hg6] at hr6
        try simp only [hg6]
        replace hS0 : w6.heap[w.heap.size + 1]? = some (.cells #[.int .i64 2, .string ⟨#[]⟩, .slice none 0 0, .slice none 0 0] 25 (0, 0)) ∧ JBox w6 w.heap.size := ⟨(hb6.block _ (ltS hS0.1)).trans hS0.1, hS0.2.same (hb6.block _ hS0.2.lt)⟩
        replace hbw := Below.on hbw hb6
        refine hK.out _ _ hS0 (fun hH6 => ?_)
        clear hK K'
        try simp only [Act.put, aSA, aSZ, aSS]
        refine wpAnyH_ready (rs := [7, 11]) (by kernel_rfl) (by simp) (AllReadyH.cons (o := { dst := some 10, op := Op.call { callee := Callee.value (Operand.func 119), args := #[Operand.tmp 9], argTypes := #[235] }, type := 25, pos := "lsp.go:248", after := #[{ on := 6, ground := Ground.data }, { on := 4, ground := Ground.chain }], guard := none }) rfl (fun K' hK => ?a4) (AllReadyH.cons (o := { dst := some 14, op := Op.buildSlice 235 1 #[(0, Operand.tmp 13)], type := 235, pos := "lsp.go:246", after := #[{ on := 10, ground := Ground.data }], guard := none }) rfl (fun K' hK => ?b4) AllReadyH.nil))
        case' a4 =>
          rw [if_pos (by rfl)]
          go_simp
          go_at_call 119
          refine (object_row (w := w6) (g := g6) (c0 := 2) (n := 2) (B := B) [([111, 112, 101, 110, 67, 108, 111, 115, 101], leafI (.mk 2 [] [] [])), ([99, 104, 97, 110, 103, 101], leafI (.mk 3 [50] [] []))] hr6 rfl (by omega) (by have := hbw.size; omega) (fun f hf => by
                simp only [List.mem_cons, List.not_mem_nil, or_false] at hf
                rcases hf with rfl | rfl
                · exact ⟨KP.leaf _ _ _ _, Nat.le_of_ble_eq_true rfl⟩
                · exact ⟨KP.leaf _ _ _ _, Nat.le_of_ble_eq_true rfl⟩) (fun f hf => by
                simp only [List.mem_cons, List.not_mem_nil, or_false] at hf
                rcases hf with rfl | rfl <;> exact Nat.le_of_ble_eq_true rfl) _ _ rfl rfl).mono ?_
          rintro e w7 ⟨ka, ca, ia, da, rfl, hka, hb7⟩
          replace hS0 : w7.heap[w.heap.size + 1]? = some (.cells #[.int .i64 2, .string ⟨#[]⟩, .slice none 0 0, .slice none 0 0] 25 (0, 0)) ∧ JBox w7 w.heap.size := ⟨(hb7.block _ (ltS hS0.1)).trans hS0.1, hS0.2.same (hb7.block _ hS0.2.lt)⟩
          replace hbw := Below.on hbw hb7
          replace hr6 := (hb7.block _ (ltS hr6)).trans hr6
          refine hK.out _ _ hS0 (fun hH7 => ?_)
          clear hK K'
          try simp only [Act.put, aSA, aSZ, aSS]
          refine wpAnyH_take (i := 8) (oi := { dst := some 11, op := Op.build 182 #[(0, Operand.const (Value.string { data := #[116, 101, 120, 116, 68, 111, 99, 117, 109, 101, 110, 116, 83, 121, 110, 99] })), (1, Operand.tmp 10)], type := 182, pos := "lsp.go:246", after := #[{ on := 7, ground := Ground.data }], guard := none }) (v := ?_) rfl (by kernel_rfl) (by kernel_rfl) (by kernel_rfl) (fun _ _ _ h => h) (Or.inl ⟨by rfl, ?_⟩) (by assumption) ?_
          rotate_left
          · intro wx hS; go_simp; with_reducible rfl
          try simp only [Act.put, aSA, aSZ, aSS]
          refine wpAnyH_ready (rs := [11]) (by kernel_rfl) (by simp) (AllReadyH.cons (o := { dst := some 14, op := Op.buildSlice 235 1 #[(0, Operand.tmp 13)], type := 235, pos := "lsp.go:246", after := #[{ on := 10, ground := Ground.data }], guard := none }) rfl (fun K' hK => ?_) AllReadyH.nil)
          rw [if_pos (by rfl)]
          go_simp
          obtain ⟨w11, hw11⟩ : ∃ V, w7.alloc (.cells #[.string ⟨#[112, 114, 101, 112, 97, 114, 101, 80, 114, 111, 118, 105, 100, 101, 114]⟩, .int .i64 2, .string ⟨#[]⟩, .slice none 0 0, .slice none 0 0] 182) = V := ⟨_, rfl⟩
          have hb11 := alloc_b hw11
          have hr11 := row_at hw11
          rw [hw11]
          obtain ⟨g11, hg11⟩ : ∃ q, w7.heap.size = q := ⟨_, rfl⟩
          rw [hg11] at hr11
          try simp only [hg11]
          replace hS0 : w11.heap[w.heap.size + 1]? = some (.cells #[.int .i64 2, .string ⟨#[]⟩, .slice none 0 0, .slice none 0 0] 25 (0, 0)) ∧ JBox w11 w.heap.size := ⟨(hb11.block _ (ltS hS0.1)).trans hS0.1, hS0.2.same (hb11.block _ hS0.2.lt)⟩
          replace hbw := Below.on hbw hb11
          replace hr6 := (hb11.block _ (ltS hr6)).trans hr6
          replace hka := kp_on' hka hb11
          refine hK.out _ _ hS0 (fun hH11 => ?_)
          clear hK K'
          try simp only [Act.put, aSA, aSZ, aSS]
          obtain ⟨wz, rfl⟩ : ∃ V, V = w11 := ⟨_, rfl⟩
        case' b4 =>
          rw [if_pos (by rfl)]
          go_simp
          obtain ⟨w11, hw11⟩ : ∃ V, w6.alloc (.cells #[.string ⟨#[112, 114, 101, 112, 97, 114, 101, 80, 114, 111, 118, 105, 100, 101, 114]⟩, .int .i64 2, .string ⟨#[]⟩, .slice none 0 0, .slice none 0 0] 182) = V := ⟨_, rfl⟩
          have hb11 := alloc_b hw11
          have hr11 := row_at hw11
          rw [hw11]
          obtain ⟨g11, hg11⟩ : ∃ q, w6.heap.size = q := ⟨_, rfl⟩
          rw [hg11] at hr11
          try simp only [hg11]
          replace hS0 : w11.heap[w.heap.size + 1]? = some (.cells #[.int .i64 2, .string ⟨#[]⟩, .slice none 0 0, .slice none 0 0] 25 (0, 0)) ∧ JBox w11 w.heap.size := ⟨(hb11.block _ (ltS hS0.1)).trans hS0.1, hS0.2.same (hb11.block _ hS0.2.lt)⟩
          replace hbw := Below.on hbw hb11
          replace hr6 := (hb11.block _ (ltS hr6)).trans hr6
          refine hK.out _ _ hS0 (fun hH11 => ?_)
          clear hK K'
          try simp only [Act.put, aSA, aSZ, aSS]
          refine wpAnyH_ready (rs := [7]) (by kernel_rfl) (by simp) (AllReadyH.cons (o := { dst := some 10, op := Op.call { callee := Callee.value (Operand.func 119), args := #[Operand.tmp 9], argTypes := #[235] }, type := 25, pos := "lsp.go:248", after := #[{ on := 6, ground := Ground.data }, { on := 4, ground := Ground.chain }], guard := none }) rfl (fun K' hK => ?_) AllReadyH.nil)
          rw [if_pos (by rfl)]
          go_simp
          go_at_call 119
          refine (object_row (w := w11) (g := g6) (c0 := 2) (n := 2) (B := B) [([111, 112, 101, 110, 67, 108, 111, 115, 101], leafI (.mk 2 [] [] [])), ([99, 104, 97, 110, 103, 101], leafI (.mk 3 [50] [] []))] hr6 rfl (by omega) (by have := hbw.size; omega) (fun f hf => by
                simp only [List.mem_cons, List.not_mem_nil, or_false] at hf
                rcases hf with rfl | rfl
                · exact ⟨KP.leaf _ _ _ _, Nat.le_of_ble_eq_true rfl⟩
                · exact ⟨KP.leaf _ _ _ _, Nat.le_of_ble_eq_true rfl⟩) (fun f hf => by
                simp only [List.mem_cons, List.not_mem_nil, or_false] at hf
                rcases hf with rfl | rfl <;> exact Nat.le_of_ble_eq_true rfl) _ _ rfl rfl).mono ?_
          rintro e w7 ⟨ka, ca, ia, da, rfl, hka, hb7⟩
          replace hS0 : w7.heap[w.heap.size + 1]? = some (.cells #[.int .i64 2, .string ⟨#[]⟩, .slice none 0 0, .slice none 0 0] 25 (0, 0)) ∧ JBox w7 w.heap.size := ⟨(hb7.block _ (ltS hS0.1)).trans hS0.1, hS0.2.same (hb7.block _ hS0.2.lt)⟩
          replace hbw := Below.on hbw hb7
          replace hr6 := (hb7.block _ (ltS hr6)).trans hr6
          replace hr11 := (hb7.block _ (ltS hr11)).trans hr11
          refine hK.out _ _ hS0 (fun hH7 => ?_)
          clear hK K'
          try simp only [Act.put, aSA, aSZ, aSS]
          refine wpAnyH_take (i := 8) (oi := { dst := some 11, op := Op.build 182 #[(0, Operand.const (Value.string { data := #[116, 101, 120, 116, 68, 111, 99, 117, 109, 101, 110, 116, 83, 121, 110, 99] })), (1, Operand.tmp 10)], type := 182, pos := "lsp.go:246", after := #[{ on := 7, ground := Ground.data }], guard := none }) (v := ?_) rfl (by kernel_rfl) (by kernel_rfl) (by kernel_rfl) (fun _ _ _ h => h) (Or.inl ⟨by rfl, ?_⟩) (by assumption) ?_
          rotate_left
          · intro wx hS; go_simp; with_reducible rfl
          try simp only [Act.put, aSA, aSZ, aSS]
          obtain ⟨wz, rfl⟩ : ∃ V, V = w7 := ⟨_, rfl⟩
      case' b3 =>
        rw [if_pos (by rfl)]
        go_simp
        obtain ⟨w11, hw11⟩ : ∃ V, w4.alloc (.cells #[.string ⟨#[112, 114, 101, 112, 97, 114, 101, 80, 114, 111, 118, 105, 100, 101, 114]⟩, .int .i64 2, .string ⟨#[]⟩, .slice none 0 0, .slice none 0 0] 182) = V := ⟨_, rfl⟩
        have hb11 := alloc_b hw11
        have hr11 := row_at hw11
        rw [hw11]
        obtain ⟨g11, hg11⟩ : ∃ q, w4.heap.size = q := ⟨_, rfl⟩
        rw [hg11] at hr11
        try simp only [hg11]
        replace hS0 : w11.heap[w.heap.size + 1]? = some (.cells #[.int .i64 2, .string ⟨#[]⟩, .slice none 0 0, .slice none 0 0] 25 (0, 0)) ∧ JBox w11 w.heap.size := ⟨(hb11.block _ (ltS hS0.1)).trans hS0.1, hS0.2.same (hb11.block _ hS0.2.lt)⟩
        replace hbw := Below.on hbw hb11
        refine hK.out _ _ hS0 (fun hH11 => ?_)
        clear hK K'
        try simp only [Act.put, aSA, aSZ, aSS]
        refine wpAnyH_ready (rs := [6]) (by kernel_rfl) (by simp) (AllReadyH.cons (o := { dst := some 9, op := Op.buildSlice 235 2 #[(0, Operand.tmp 6), (1, Operand.tmp 8)], type := 235, pos := "lsp.go:246", after := #[{ on := 3, ground := Ground.data }, { on := 5, ground := Ground.data }], guard := none }) rfl (fun K' hK => ?_) AllReadyH.nil)
        rw [if_pos (by rfl)]
        go_simp
        obtain ⟨w6, hw6⟩ : ∃ V, w11.alloc (.cells #[.string ⟨#[111, 112, 101, 110, 67, 108, 111, 115, 101]⟩, .int .i64 2, .string ⟨#[]⟩, .slice none 0 0, .slice none 0 0, .string ⟨#[99, 104, 97, 110, 103, 101]⟩, .int .i64 3, .string ⟨#[50]⟩, .slice none 0 0, .slice none 0 0] 182) = V := ⟨_, rfl⟩
        have hb6 := alloc_b hw6
        have hr6 := row_at hw6
        rw [hw6]
        obtain ⟨g6, hg6⟩ : ∃ q, w11.heap.size = q := ⟨_, rfl⟩
        rw [hg6] at hr6
        try simp only [hg6]
        replace hS0 : w6.heap[w.heap.size + 1]? = some (.cells #[.int .i64 2, .string ⟨#[]⟩, .slice none 0 0, .slice none 0 0] 25 (0, 0)) ∧ JBox w6 w.heap.size := ⟨(hb6.block _ (ltS hS0.1)).trans hS0.1, hS0.2.same (hb6.block _ hS0.2.lt)⟩
        replace hbw := Below.on hbw hb6
        replace hr11 := (hb6.block _ (ltS hr11)).trans hr11
        refine hK.out _ _ hS0 (fun hH6 => ?_)
        clear hK K'
        try simp only [Act.put, aSA, aSZ, aSS]
        refine wpAnyH_ready (rs := [7]) (by kernel_rfl) (by simp) (AllReadyH.cons (o := { dst := some 10, op := Op.call { callee := Callee.value (Operand.func 119), args := #[Operand.tmp 9], argTypes := #[235] }, type := 25, pos := "lsp.go:248", after := #[{ on := 6, ground := Ground.data }, { on := 4, ground := Ground.chain }], guard := none }) rfl (fun K' hK => ?_) AllReadyH.nil)
        rw [if_pos (by rfl)]
        go_simp
        go_at_call 119
        refine (object_row (w := w6) (g := g6) (c0 := 2) (n := 2) (B := B) [([111, 112, 101, 110, 67, 108, 111, 115, 101], leafI (.mk 2 [] [] [])), ([99, 104, 97, 110, 103, 101], leafI (.mk 3 [50] [] []))] hr6 rfl (by omega) (by have := hbw.size; omega) (fun f hf => by
              simp only [List.mem_cons, List.not_mem_nil, or_false] at hf
              rcases hf with rfl | rfl
              · exact ⟨KP.leaf _ _ _ _, Nat.le_of_ble_eq_true rfl⟩
              · exact ⟨KP.leaf _ _ _ _, Nat.le_of_ble_eq_true rfl⟩) (fun f hf => by
              simp only [List.mem_cons, List.not_mem_nil, or_false] at hf
              rcases hf with rfl | rfl <;> exact Nat.le_of_ble_eq_true rfl) _ _ rfl rfl).mono ?_
        rintro e w7 ⟨ka, ca, ia, da, rfl, hka, hb7⟩
        replace hS0 : w7.heap[w.heap.size + 1]? = some (.cells #[.int .i64 2, .string ⟨#[]⟩, .slice none 0 0, .slice none 0 0] 25 (0, 0)) ∧ JBox w7 w.heap.size := ⟨(hb7.block _ (ltS hS0.1)).trans hS0.1, hS0.2.same (hb7.block _ hS0.2.lt)⟩
        replace hbw := Below.on hbw hb7
        replace hr6 := (hb7.block _ (ltS hr6)).trans hr6
        replace hr11 := (hb7.block _ (ltS hr11)).trans hr11
        refine hK.out _ _ hS0 (fun hH7 => ?_)
        clear hK K'
        try simp only [Act.put, aSA, aSZ, aSS]
        refine wpAnyH_take (i := 8) (oi := { dst := some 11, op := Op.build 182 #[(0, Operand.const (Value.string { data := #[116, 101, 120, 116, 68, 111, 99, 117, 109, 101, 110, 116, 83, 121, 110, 99] })), (1, Operand.tmp 10)], type := 182, pos := "lsp.go:246", after := #[{ on := 7, ground := Ground.data }], guard := none }) (v := ?_) rfl (by kernel_rfl) (by kernel_rfl) (by kernel_rfl) (fun _ _ _ h => h) (Or.inl ⟨by rfl, ?_⟩) (by assumption) ?_
        rotate_left
        · intro wx hS; go_simp; with_reducible rfl
        try simp only [Act.put, aSA, aSZ, aSS]
        obtain ⟨wz, rfl⟩ : ∃ V, V = w7 := ⟨_, rfl⟩
    case' b2 =>
      rw [if_pos (by rfl)]
      go_simp
      obtain ⟨w11, hw11⟩ : ∃ V, w0.alloc (.cells #[.string ⟨#[112, 114, 101, 112, 97, 114, 101, 80, 114, 111, 118, 105, 100, 101, 114]⟩, .int .i64 2, .string ⟨#[]⟩, .slice none 0 0, .slice none 0 0] 182) = V := ⟨_, rfl⟩
      have hb11 := alloc_b hw11
      have hr11 := row_at hw11
      rw [hw11]
      obtain ⟨g11, hg11⟩ : ∃ q, w0.heap.size = q := ⟨_, rfl⟩
      rw [hg11] at hr11
      try simp only [hg11]
      replace hS0 : w11.heap[w.heap.size + 1]? = some (.cells #[.int .i64 2, .string ⟨#[]⟩, .slice none 0 0, .slice none 0 0] 25 (0, 0)) ∧ JBox w11 w.heap.size := ⟨(hb11.block _ (ltS hS0.1)).trans hS0.1, hS0.2.same (hb11.block _ hS0.2.lt)⟩
      replace hbw := Below.on hbw hb11
      refine hK.out _ _ hS0 (fun hH11 => ?_)
      clear hK K'
      try simp only [Act.put, aSA, aSZ, aSS]
      refine wpAnyH_ready (rs := [4]) (by kernel_rfl) (by simp) (AllReadyH.cons (o := { dst := some 7, op := Op.call { callee := Callee.value (Operand.func 126), args := #[Operand.const (Value.int IntKind.i64 2)], argTypes := #[2] }, type := 25, pos := "lsp.go:248", after := #[{ on := 0, ground := Ground.chain }], guard := none }) rfl (fun K' hK => ?_) AllReadyH.nil)
      rw [if_pos (by rfl)]
      go_simp
      go_at_call 126
      refine (whole126 2 (by decide) (by decide) ⟨#[50]⟩ itoa2 _ (fun V hV => HE.out V (Below.on HW.out (Below.on hbw hV)))).mono ?_
      rintro e w4 ⟨rfl, hb4⟩
      replace hS0 : w4.heap[w.heap.size + 1]? = some (.cells #[.int .i64 2, .string ⟨#[]⟩, .slice none 0 0, .slice none 0 0] 25 (0, 0)) ∧ JBox w4 w.heap.size := ⟨(hb4.block _ (ltS hS0.1)).trans hS0.1, hS0.2.same (hb4.block _ hS0.2.lt)⟩
      replace hbw := Below.on hbw hb4
      replace hr11 := (hb4.block _ (ltS hr11)).trans hr11
      refine hK.out _ _ hS0 (fun hH4 => ?_)
      clear hK K'
      try simp only [Act.put, aSA, aSZ, aSS]
      refine wpAnyH_take (i := 5) (oi := { dst := some 8, op := Op.build 182 #[(0, Operand.const (Value.string { data := #[99, 104, 97, 110, 103, 101] })), (1, Operand.tmp 7)], type := 182, pos := "lsp.go:246", after := #[{ on := 4, ground := Ground.data }], guard := none }) (v := ?_) rfl (by kernel_rfl) (by kernel_rfl) (by kernel_rfl) (fun _ _ _ h => h) (Or.inl ⟨by rfl, ?_⟩) (by assumption) ?_
      rotate_left
      · intro wx hS; go_simp; with_reducible rfl
      try simp only [Act.put, aSA, aSZ, aSS]
      refine wpAnyH_ready (rs := [6]) (by kernel_rfl) (by simp) (AllReadyH.cons (o := { dst := some 9, op := Op.buildSlice 235 2 #[(0, Operand.tmp 6), (1, Operand.tmp 8)], type := 235, pos := "lsp.go:246", after := #[{ on := 3, ground := Ground.data }, { on := 5, ground := Ground.data }], guard := none }) rfl (fun K' hK => ?_) AllReadyH.nil)
      rw [if_pos (by rfl)]
      go_simp
      obtain ⟨w6, hw6⟩ : ∃ V, w4.alloc (.cells #[.string ⟨#[111, 112, 101, 110, 67, 108, 111, 115, 101]⟩, .int .i64 2, .string ⟨#[]⟩, .slice none 0 0, .slice none 0 0, .string ⟨#[99, 104, 97, 110, 103, 101]⟩, .int .i64 3, .string ⟨#[50]⟩, .slice none 0 0, .slice none 0 0] 182) = V := ⟨_, rfl⟩
      have hb6 := alloc_b hw6
      have hr6 := row_at hw6
      rw [hw6]
      obtain ⟨g6, hg6⟩ : ∃ q, w4.heap.size = q := ⟨_, rfl⟩
      rw [hg6] at hr6
      try simp only [hg6]
      replace hS0 : w6.heap[w.heap.size + 1]? = some (.cells #[.int .i64 2, .string ⟨#[]⟩, .slice none 0 0, .slice none 0 0] 25 (0, 0)) ∧ JBox w6 w.heap.size := ⟨(hb6.block _ (ltS hS0.1)).trans hS0.1, hS0.2.same (hb6.block _ hS0.2.lt)⟩
      replace hbw := Below.on hbw hb6
      replace hr11 := (hb6.block _ (ltS hr11)).trans hr11
      refine hK.out _ _ hS0 (fun hH6 => ?_)
      clear hK K'
      try simp only [Act.put, aSA, aSZ, aSS]
      refine wpAnyH_ready (rs := [7]) (by kernel_rfl) (by simp) (AllReadyH.cons (o := { dst := some 10, op := Op.call { callee := Callee.value (Operand.func 119), args := #[Operand.tmp 9], argTypes := #[235] }, type := 25, pos := "lsp.go:248", after := #[{ on := 6, ground := Ground.data }, { on := 4, ground := Ground.chain }], guard := none }) rfl (fun K' hK => ?_) AllReadyH.nil)
      rw [if_pos (by rfl)]
      go_simp
      go_at_call 119
      refine (object_row (w := w6) (g := g6) (c0 := 2) (n := 2) (B := B) [([111, 112, 101, 110, 67, 108, 111, 115, 101], leafI (.mk 2 [] [] [])), ([99, 104, 97, 110, 103, 101], leafI (.mk 3 [50] [] []))] hr6 rfl (by omega) (by have := hbw.size; omega) (fun f hf => by
            simp only [List.mem_cons, List.not_mem_nil, or_false] at hf
            rcases hf with rfl | rfl
            · exact ⟨KP.leaf _ _ _ _, Nat.le_of_ble_eq_true rfl⟩
            · exact ⟨KP.leaf _ _ _ _, Nat.le_of_ble_eq_true rfl⟩) (fun f hf => by
            simp only [List.mem_cons, List.not_mem_nil, or_false] at hf
            rcases hf with rfl | rfl <;> exact Nat.le_of_ble_eq_true rfl) _ _ rfl rfl).mono ?_
      rintro e w7 ⟨ka, ca, ia, da, rfl, hka, hb7⟩
      replace hS0 : w7.heap[w.heap.size + 1]? = some (.cells #[.int .i64 2, .string ⟨#[]⟩, .slice none 0 0, .slice none 0 0] 25 (0, 0)) ∧ JBox w7 w.heap.size := ⟨(hb7.block _ (ltS hS0.1)).trans hS0.1, hS0.2.same (hb7.block _ hS0.2.lt)⟩
      replace hbw := Below.on hbw hb7
      replace hr6 := (hb7.block _ (ltS hr6)).trans hr6
      replace hr11 := (hb7.block _ (ltS hr11)).trans hr11
      refine hK.out _ _ hS0 (fun hH7 => ?_)
      clear hK K'
      try simp only [Act.put, aSA, aSZ, aSS]
      refine wpAnyH_take (i := 8) (oi := { dst := some 11, op := Op.build 182 #[(0, Operand.const (Value.string { data := #[116, 101, 120, 116, 68, 111, 99, 117, 109, 101, 110, 116, 83, 121, 110, 99] })), (1, Operand.tmp 10)], type := 182, pos := "lsp.go:246", after := #[{ on := 7, ground := Ground.data }], guard := none }) (v := ?_) rfl (by kernel_rfl) (by kernel_rfl) (by kernel_rfl) (fun _ _ _ h => h) (Or.inl ⟨by rfl, ?_⟩) (by assumption) ?_
      rotate_left
      · intro wx hS; go_simp; with_reducible rfl
      try simp only [Act.put, aSA, aSZ, aSS]
      obtain ⟨wz, rfl⟩ : ∃ V, V = w7 := ⟨_, rfl⟩
  case' b1 =>
    rw [if_pos (by rfl)]
    go_simp
    obtain ⟨w11, hw11⟩ : ∃ V, wd.alloc (.cells #[.string ⟨#[112, 114, 101, 112, 97, 114, 101, 80, 114, 111, 118, 105, 100, 101, 114]⟩, .int .i64 2, .string ⟨#[]⟩, .slice none 0 0, .slice none 0 0] 182) = V := ⟨_, rfl⟩
    have hb11 := alloc_b hw11
    have hr11 := row_at hw11
    rw [hw11]
    obtain ⟨g11, hg11⟩ : ∃ q, wd.heap.size = q := ⟨_, rfl⟩
    rw [hg11] at hr11
    try simp only [hg11]
    replace hS0 : w11.heap[w.heap.size + 1]? = some (.cells #[.int .i64 2, .string ⟨#[]⟩, .slice none 0 0, .slice none 0 0] 25 (0, 0)) ∧ JBox w11 w.heap.size := ⟨(hb11.block _ (ltS hS0.1)).trans hS0.1, hS0.2.same (hb11.block _ hS0.2.lt)⟩
    replace hbw := Below.on hbw hb11
    refine hK.out _ _ hS0 (fun hH11 => ?_)
    clear hK K'
    try simp only [Act.put, aSA, aSZ, aSS]
    refine wpAnyH_ready (rs := [0]) (by kernel_rfl) (by simp) (AllReadyH.cons (o := { dst := some 3, op := Op.call { callee := Callee.value (Operand.func 121), args := #[Operand.const (Value.string { data := #[117, 116, 102, 45, 49, 54] })], argTypes := #[9] }, type := 25, pos := "lsp.go:247", after := #[], guard := none }) rfl (fun K' hK => ?_) AllReadyH.nil)
    rw [if_pos (by rfl)]
    go_simp
    go_at_call 121
    refine (text121 _ _).mono ?_
    rintro e w0 ⟨rfl, hb0⟩
    replace hS0 : w0.heap[w.heap.size + 1]? = some (.cells #[.int .i64 2, .string ⟨#[]⟩, .slice none 0 0, .slice none 0 0] 25 (0, 0)) ∧ JBox w0 w.heap.size := ⟨(hb0.block _ (ltS hS0.1)).trans hS0.1, hS0.2.same (hb0.block _ hS0.2.lt)⟩
    replace hbw := Below.on hbw hb0
    replace hr11 := (hb0.block _ (ltS hr11)).trans hr11
    refine hK.out _ _ hS0 (fun hH0 => ?_)
    clear hK K'
    try simp only [Act.put, aSA, aSZ, aSS]
    refine wpAnyH_take (i := 1) (oi := { dst := some 4, op := Op.build 182 #[(0, Operand.const (Value.string { data := #[112, 111, 115, 105, 116, 105, 111, 110, 69, 110, 99, 111, 100, 105, 110, 103] })), (1, Operand.tmp 3)], type := 182, pos := "lsp.go:246", after := #[{ on := 0, ground := Ground.data }], guard := none }) (v := ?_) rfl (by kernel_rfl) (by kernel_rfl) (by kernel_rfl) (fun _ _ _ h => h) (Or.inl ⟨by rfl, ?_⟩) (by assumption) ?_
    rotate_left
    · intro wx hS; go_simp; with_reducible rfl
    try simp only [Act.put, aSA, aSZ, aSS]
    refine wpAnyH_ready (rs := [4]) (by kernel_rfl) (by simp) (AllReadyH.cons (o := { dst := some 7, op := Op.call { callee := Callee.value (Operand.func 126), args := #[Operand.const (Value.int IntKind.i64 2)], argTypes := #[2] }, type := 25, pos := "lsp.go:248", after := #[{ on := 0, ground := Ground.chain }], guard := none }) rfl (fun K' hK => ?_) AllReadyH.nil)
    rw [if_pos (by rfl)]
    go_simp
    go_at_call 126
    refine (whole126 2 (by decide) (by decide) ⟨#[50]⟩ itoa2 _ (fun V hV => HE.out V (Below.on HW.out (Below.on hbw hV)))).mono ?_
    rintro e w4 ⟨rfl, hb4⟩
    replace hS0 : w4.heap[w.heap.size + 1]? = some (.cells #[.int .i64 2, .string ⟨#[]⟩, .slice none 0 0, .slice none 0 0] 25 (0, 0)) ∧ JBox w4 w.heap.size := ⟨(hb4.block _ (ltS hS0.1)).trans hS0.1, hS0.2.same (hb4.block _ hS0.2.lt)⟩
    replace hbw := Below.on hbw hb4
    replace hr11 := (hb4.block _ (ltS hr11)).trans hr11
    refine hK.out _ _ hS0 (fun hH4 => ?_)
    clear hK K'
    try simp only [Act.put, aSA, aSZ, aSS]
    refine wpAnyH_take (i := 5) (oi := { dst := some 8, op := Op.build 182 #[(0, Operand.const (Value.string { data := #[99, 104, 97, 110, 103, 101] })), (1, Operand.tmp 7)], type := 182, pos := "lsp.go:246", after := #[{ on := 4, ground := Ground.data }], guard := none }) (v := ?_) rfl (by kernel_rfl) (by kernel_rfl) (by kernel_rfl) (fun _ _ _ h => h) (Or.inl ⟨by rfl, ?_⟩) (by assumption) ?_
    rotate_left
    · intro wx hS; go_simp; with_reducible rfl
    try simp only [Act.put, aSA, aSZ, aSS]
    refine wpAnyH_ready (rs := [6]) (by kernel_rfl) (by simp) (AllReadyH.cons (o := { dst := some 9, op := Op.buildSlice 235 2 #[(0, Operand.tmp 6), (1, Operand.tmp 8)], type := 235, pos := "lsp.go:246", after := #[{ on := 3, ground := Ground.data }, { on := 5, ground := Ground.data }], guard := none }) rfl (fun K' hK => ?_) AllReadyH.nil)
    rw [if_pos (by rfl)]
    go_simp
    obtain ⟨w6, hw6⟩ : ∃ V, w4.alloc (.cells #[.string ⟨#[111, 112, 101, 110, 67, 108, 111, 115, 101]⟩, .int .i64 2, .string ⟨#[]⟩, .slice none 0 0, .slice none 0 0, .string ⟨#[99, 104, 97, 110, 103, 101]⟩, .int .i64 3, .string ⟨#[50]⟩, .slice none 0 0, .slice none 0 0] 182) = V := ⟨_, rfl⟩
    have hb6 := alloc_b hw6
    have hr6 := row_at hw6
    rw [hw6]
    obtain ⟨g6, hg6⟩ : ∃ q, w4.heap.size = q := ⟨_, rfl⟩
    rw [hg6] at hr6
    try simp only [hg6]
    replace hS0 : w6.heap[w.heap.size + 1]? = some (.cells #[.int .i64 2, .string ⟨#[]⟩, .slice none 0 0, .slice none 0 0] 25 (0, 0)) ∧ JBox w6 w.heap.size := ⟨(hb6.block _ (ltS hS0.1)).trans hS0.1, hS0.2.same (hb6.block _ hS0.2.lt)⟩
    replace hbw := Below.on hbw hb6
    replace hr11 := (hb6.block _ (ltS hr11)).trans hr11
    refine hK.out _ _ hS0 (fun hH6 => ?_)
    clear hK K'
    try simp only [Act.put, aSA, aSZ, aSS]
    refine wpAnyH_ready (rs := [7]) (by kernel_rfl) (by simp) (AllReadyH.cons (o := { dst := some 10, op := Op.call { callee := Callee.value (Operand.func 119), args := #[Operand.tmp 9], argTypes := #[235] }, type := 25, pos := "lsp.go:248", after := #[{ on := 6, ground := Ground.data }, { on := 4, ground := Ground.chain }], guard := none }) rfl (fun K' hK => ?_) AllReadyH.nil)
    rw [if_pos (by rfl)]
    go_simp
    go_at_call 119
    refine (object_row (w := w6) (g := g6) (c0 := 2) (n := 2) (B := B) [([111, 112, 101, 110, 67, 108, 111, 115, 101], leafI (.mk 2 [] [] [])), ([99, 104, 97, 110, 103, 101], leafI (.mk 3 [50] [] []))] hr6 rfl (by omega) (by have := hbw.size; omega) (fun f hf => by
          simp only [List.mem_cons, List.not_mem_nil, or_false] at hf
          rcases hf with rfl | rfl
          · exact ⟨KP.leaf _ _ _ _, Nat.le_of_ble_eq_true rfl⟩
          · exact ⟨KP.leaf _ _ _ _, Nat.le_of_ble_eq_true rfl⟩) (fun f hf => by
          simp only [List.mem_cons, List.not_mem_nil, or_false] at hf
          rcases hf with rfl | rfl <;> exact Nat.le_of_ble_eq_true rfl) _ _ rfl rfl).mono ?_
    rintro e w7 ⟨ka, ca, ia, da, rfl, hka, hb7⟩
    replace hS0 : w7.heap[w.heap.size + 1]? = some (.cells #[.int .i64 2, .string ⟨#[]⟩, .slice none 0 0, .slice none 0 0] 25 (0, 0)) ∧ JBox w7 w.heap.size := ⟨(hb7.block _ (ltS hS0.1)).trans hS0.1, hS0.2.same (hb7.block _ hS0.2.lt)⟩
    replace hbw := Below.on hbw hb7
    replace hr6 := (hb7.block _ (ltS hr6)).trans hr6
    replace hr11 := (hb7.block _ (ltS hr11)).trans hr11
    refine hK.out _ _ hS0 (fun hH7 => ?_)
    clear hK K'
    try simp only [Act.put, aSA, aSZ, aSS]
    refine wpAnyH_take (i := 8) (oi := { dst := some 11, op := Op.build 182 #[(0, Operand.const (Value.string { data := #[116, 101, 120, 116, 68, 111, 99, 117, 109, 101, 110, 116, 83, 121, 110, 99] })), (1, Operand.tmp 10)], type := 182, pos := "lsp.go:246", after := #[{ on := 7, ground := Ground.data }], guard := none }) (v := ?_) rfl (by kernel_rfl) (by kernel_rfl) (by kernel_rfl) (fun _ _ _ h => h) (Or.inl ⟨by rfl, ?_⟩) (by assumption) ?_
    rotate_left
    · intro wx hS; go_simp; with_reducible rfl
    try simp only [Act.put, aSA, aSZ, aSS]
    obtain ⟨wz, rfl⟩ : ∃ V, V = w7 := ⟨_, rfl⟩
  all_goals
    refine wpAnyH_ready (rs := [12]) (by kernel_rfl) (by simp) (AllReadyH.cons (o := { dst := some 15, op := Op.call { callee := Callee.value (Operand.func 119), args := #[Operand.tmp 14], argTypes := #[235] }, type := 25, pos := "lsp.go:249", after := #[{ on := 11, ground := Ground.data }, { on := 7, ground := Ground.chain }], guard := none }) rfl (fun K' hK => ?_) AllReadyH.nil)
    rw [if_pos (by rfl)]
    go_simp
    go_at_call 119
    refine (object_row (w := wz) (g := g11) (c0 := 1) (n := 1) (B := B) [([112, 114, 101, 112, 97, 114, 101, 80, 114, 111, 118, 105, 100, 101, 114], leafI (.mk 2 [] [] []))] hr11 rfl (by omega) (by have := hbw.size; omega) (fun f hf => by
          obtain rfl := List.mem_singleton.1 hf
          exact ⟨KP.leaf _ _ _ _, Nat.le_of_ble_eq_true rfl⟩) (fun f hf => by
          obtain rfl := List.mem_singleton.1 hf <;> exact Nat.le_of_ble_eq_true rfl) _ _ rfl rfl).mono ?_
    rintro e w12 ⟨kb, cb, ib, db, rfl, hkb, hb12⟩
    replace hS0 : w12.heap[w.heap.size + 1]? = some (.cells #[.int .i64 2, .string ⟨#[]⟩, .slice none 0 0, .slice none 0 0] 25 (0, 0)) ∧ JBox w12 w.heap.size := ⟨(hb12.block _ (ltS hS0.1)).trans hS0.1, hS0.2.same (hb12.block _ hS0.2.lt)⟩
    replace hbw := Below.on hbw hb12
    replace hka := kp_on' hka hb12
    refine hK.out _ _ hS0 (fun hH12 => ?_)
    clear hK K'
    try simp only [Act.put, aSA, aSZ, aSS]
    refine wpAnyH_take (i := 13) (oi := { dst := some 16, op := Op.build 182 #[(0, Operand.const (Value.string { data := #[114, 101, 110, 97, 109, 101, 80, 114, 111, 118, 105, 100, 101, 114] })), (1, Operand.tmp 15)], type := 182, pos := "lsp.go:246", after := #[{ on := 12, ground := Ground.data }], guard := none }) (v := ?_) rfl (by kernel_rfl) (by kernel_rfl) (by kernel_rfl) (fun _ _ _ h => h) (Or.inl ⟨by rfl, ?_⟩) (by assumption) ?_
    rotate_left
    · intro wx hS; go_simp; with_reducible rfl
    try simp only [Act.put, aSA, aSZ, aSS]
    refine wpAnyH_ready (rs := [14]) (by kernel_rfl) (by simp) (AllReadyH.cons (o := { dst := some 17, op := Op.call { callee := Callee.value (Operand.func 121), args := #[Operand.const (Value.string { data := #[114, 101, 102, 97, 99, 116, 111, 114, 46, 105, 110, 108, 105, 110, 101] })], argTypes := #[9] }, type := 25, pos := "lsp.go:250", after := #[{ on := 12, ground := Ground.chain }], guard := none }) rfl (fun K' hK => ?_) AllReadyH.nil)
    rw [if_pos (by rfl)]
    go_simp
    go_at_call 121
    refine (text121 _ _).mono ?_
    rintro e w14 ⟨rfl, hb14⟩
    replace hS0 : w14.heap[w.heap.size + 1]? = some (.cells #[.int .i64 2, .string ⟨#[]⟩, .slice none 0 0, .slice none 0 0] 25 (0, 0)) ∧ JBox w14 w.heap.size := ⟨(hb14.block _ (ltS hS0.1)).trans hS0.1, hS0.2.same (hb14.block _ hS0.2.lt)⟩
    replace hbw := Below.on hbw hb14
    replace hka := kp_on' hka hb14
    replace hkb := kp_on' hkb hb14
    refine hK.out _ _ hS0 (fun hH14 => ?_)
    clear hK K'
    try simp only [Act.put, aSA, aSZ, aSS]
    refine wpAnyH_ready (rs := [15]) (by kernel_rfl) (by simp) (AllReadyH.cons (o := { dst := some 18, op := Op.call { callee := Callee.value (Operand.func 121), args := #[Operand.const (Value.string { data := #[114, 101, 102, 97, 99, 116, 111, 114, 46, 101, 120, 116, 114, 97, 99, 116] })], argTypes := #[9] }, type := 25, pos := "lsp.go:250", after := #[{ on := 14, ground := Ground.chain }], guard := none }) rfl (fun K' hK => ?_) AllReadyH.nil)
    rw [if_pos (by rfl)]
    go_simp
    go_at_call 121
    refine (text121 _ _).mono ?_
    rintro e w15 ⟨rfl, hb15⟩
    replace hS0 : w15.heap[w.heap.size + 1]? = some (.cells #[.int .i64 2, .string ⟨#[]⟩, .slice none 0 0, .slice none 0 0] 25 (0, 0)) ∧ JBox w15 w.heap.size := ⟨(hb15.block _ (ltS hS0.1)).trans hS0.1, hS0.2.same (hb15.block _ hS0.2.lt)⟩
    replace hbw := Below.on hbw hb15
    replace hka := kp_on' hka hb15
    replace hkb := kp_on' hkb hb15
    have hB15 : B ≤ w15.heap.size := by have := hbw.size; omega
    refine hK.out _ _ hS0 (fun hH15 => ?_)
    clear hK K'
    try simp only [Act.put, aSA, aSZ, aSS]
    refine wpAnyH_ready (rs := [16]) (by kernel_rfl) (by simp) (AllReadyH.cons (o := { dst := some 19, op := Op.buildSlice 23 2 #[(0, Operand.tmp 17), (1, Operand.tmp 18)], type := 23, pos := "lsp.go:246", after := #[{ on := 14, ground := Ground.data }, { on := 15, ground := Ground.data }], guard := none }) rfl (fun K' hK => ?_) AllReadyH.nil)
    rw [if_pos (by rfl)]
    go_simp
    obtain ⟨w16, hw16⟩ : ∃ V, w15.alloc (.cells #[.int .i64 4, .string ⟨#[114, 101, 102, 97, 99, 116, 111, 114, 46, 105, 110, 108, 105, 110, 101]⟩, .slice none 0 0, .slice none 0 0, .int .i64 4, .string ⟨#[114, 101, 102, 97, 99, 116, 111, 114, 46, 101, 120, 116, 114, 97, 99, 116]⟩, .slice none 0 0, .slice none 0 0] 25) = V := ⟨_, rfl⟩
    have hb16 := alloc_b hw16
    have hr16 := row_at hw16
    rw [hw16]
    obtain ⟨g16, hg16⟩ : ∃ q, w15.heap.size = q := ⟨_, rfl⟩
    rw [hg16] at hr16
    try simp only [hg16]
    replace hS0 : w16.heap[w.heap.size + 1]? = some (.cells #[.int .i64 2, .string ⟨#[]⟩, .slice none 0 0, .slice none 0 0] 25 (0, 0)) ∧ JBox w16 w.heap.size := ⟨(hb16.block _ (ltS hS0.1)).trans hS0.1, hS0.2.same (hb16.block _ hS0.2.lt)⟩
    replace hbw := Below.on hbw hb16
    replace hka := kp_on' hka hb16
    replace hkb := kp_on' hkb hb16
    have hkr := arr_two (B := B) hr16 (by omega)
    refine hK.out _ _ hS0 (fun hH16 => ?_)
    clear hK K'
    try simp only [Act.put, aSA, aSZ, aSS]
    refine wpAnyH_ready (rs := [17]) (by kernel_rfl) (by simp) (AllReadyH.cons (o := { dst := some 20, op := Op.call { callee := Callee.value (Operand.func 123), args := #[Operand.tmp 19], argTypes := #[23] }, type := 25, pos := "lsp.go:250", after := #[{ on := 16, ground := Ground.data }, { on := 15, ground := Ground.chain }], guard := none }) rfl (fun K' hK => ?_) AllReadyH.nil)
    rw [if_pos (by rfl)]
    go_simp
    go_at_call 123
    refine (array123 _ _ _ _).mono ?_
    rintro e w17 ⟨rfl, hb17⟩
    replace hS0 : w17.heap[w.heap.size + 1]? = some (.cells #[.int .i64 2, .string ⟨#[]⟩, .slice none 0 0, .slice none 0 0] 25 (0, 0)) ∧ JBox w17 w.heap.size := ⟨(hb17.block _ (ltS hS0.1)).trans hS0.1, hS0.2.same (hb17.block _ hS0.2.lt)⟩
    replace hbw := Below.on hbw hb17
    replace hka := kp_on' hka hb17
    replace hkb := kp_on' hkb hb17
    replace hkr := kp_on' hkr hb17
    refine hK.out _ _ hS0 (fun hH17 => ?_)
    clear hK K'
    try simp only [Act.put, aSA, aSZ, aSS]
    refine wpAnyH_take (i := 18) (oi := { dst := some 21, op := Op.build 182 #[(0, Operand.const (Value.string { data := #[99, 111, 100, 101, 65, 99, 116, 105, 111, 110, 75, 105, 110, 100, 115] })), (1, Operand.tmp 20)], type := 182, pos := "lsp.go:246", after := #[{ on := 17, ground := Ground.data }], guard := none }) (v := ?_) rfl (by kernel_rfl) (by kernel_rfl) (by kernel_rfl) (fun _ _ _ h => h) (Or.inl ⟨by rfl, ?_⟩) (by assumption) ?_
    rotate_left
    · intro wx hS; go_simp; with_reducible rfl
    try simp only [Act.put, aSA, aSZ, aSS]
    refine wpAnyH_ready (rs := [19]) (by kernel_rfl) (by simp) (AllReadyH.cons (o := { dst := some 22, op := Op.buildSlice 235 1 #[(0, Operand.tmp 21)], type := 235, pos := "lsp.go:246", after := #[{ on := 18, ground := Ground.data }], guard := none }) rfl (fun K' hK => ?_) AllReadyH.nil)
    rw [if_pos (by rfl)]
    go_simp
    obtain ⟨w19, hw19⟩ : ∃ V, w17.alloc (.cells #[.string ⟨#[99, 111, 100, 101, 65, 99, 116, 105, 111, 110, 75, 105, 110, 100, 115]⟩, .int .i64 5, .string ⟨#[]⟩, .slice none 0 0, .slice (some ⟨g16, 0, none⟩) 2 2] 182) = V := ⟨_, rfl⟩
    have hb19 := alloc_b hw19
    have hr19 := row_at hw19
    rw [hw19]
    obtain ⟨g19, hg19⟩ : ∃ q, w17.heap.size = q := ⟨_, rfl⟩
    rw [hg19] at hr19
    try simp only [hg19]
    replace hS0 : w19.heap[w.heap.size + 1]? = some (.cells #[.int .i64 2, .string ⟨#[]⟩, .slice none 0 0, .slice none 0 0] 25 (0, 0)) ∧ JBox w19 w.heap.size := ⟨(hb19.block _ (ltS hS0.1)).trans hS0.1, hS0.2.same (hb19.block _ hS0.2.lt)⟩
    replace hbw := Below.on hbw hb19
    replace hka := kp_on' hka hb19
    replace hkb := kp_on' hkb hb19
    replace hkr := kp_on' hkr hb19
    refine hK.out _ _ hS0 (fun hH19 => ?_)
    clear hK K'
    try simp only [Act.put, aSA, aSZ, aSS]
    refine wpAnyH_ready (rs := [20]) (by kernel_rfl) (by simp) (AllReadyH.cons (o := { dst := some 23, op := Op.call { callee := Callee.value (Operand.func 119), args := #[Operand.tmp 22], argTypes := #[235] }, type := 25, pos := "lsp.go:250", after := #[{ on := 19, ground := Ground.data }, { on := 17, ground := Ground.chain }], guard := none }) rfl (fun K' hK => ?_) AllReadyH.nil)
    rw [if_pos (by rfl)]
    go_simp
    go_at_call 119
    refine (object_row (w := w19) (g := g19) (c0 := 1) (n := 1) (B := B) [([99, 111, 100, 101, 65, 99, 116, 105, 111, 110, 75, 105, 110, 100, 115], ⟨.mk 5 [] [] [.mk 4 [114, 101, 102, 97, 99, 116, 111, 114, 46, 105, 110, 108, 105, 110, 101] [] [], .mk 4 [114, 101, 102, 97, 99, 116, 111, 114, 46, 101, 120, 116, 114, 97, 99, 116] [] []], none, 0, some ⟨g16, 0, none⟩, 2⟩)] hr19 rfl (by omega) (by have := hbw.size; omega) (fun f hf => by
          obtain rfl := List.mem_singleton.1 hf
          exact ⟨hkr, Nat.zero_le _⟩) (fun f hf => by
          obtain rfl := List.mem_singleton.1 hf <;> exact Nat.le_of_ble_eq_true rfl) _ _ rfl rfl).mono ?_
    rintro e w20 ⟨kd, cd, id, dd, rfl, hkd, hb20⟩
    replace hS0 : w20.heap[w.heap.size + 1]? = some (.cells #[.int .i64 2, .string ⟨#[]⟩, .slice none 0 0, .slice none 0 0] 25 (0, 0)) ∧ JBox w20 w.heap.size := ⟨(hb20.block _ (ltS hS0.1)).trans hS0.1, hS0.2.same (hb20.block _ hS0.2.lt)⟩
    replace hbw := Below.on hbw hb20
    replace hka := kp_on' hka hb20
    replace hkb := kp_on' hkb hb20
    refine hK.out _ _ hS0 (fun hH20 => ?_)
    clear hK K'
    try simp only [Act.put, aSA, aSZ, aSS]
    refine wpAnyH_take (i := 21) (oi := { dst := some 24, op := Op.build 182 #[(0, Operand.const (Value.string { data := #[99, 111, 100, 101, 65, 99, 116, 105, 111, 110, 80, 114, 111, 118, 105, 100, 101, 114] })), (1, Operand.tmp 23)], type := 182, pos := "lsp.go:246", after := #[{ on := 20, ground := Ground.data }], guard := none }) (v := ?_) rfl (by kernel_rfl) (by kernel_rfl) (by kernel_rfl) (fun _ _ _ h => h) (Or.inl ⟨by rfl, ?_⟩) (by assumption) ?_
    rotate_left
    · intro wx hS; go_simp; with_reducible rfl
    try simp only [Act.put, aSA, aSZ, aSS]
    refine wpAnyH_ready (rs := [22]) (by kernel_rfl) (by simp) (AllReadyH.cons (o := { dst := some 25, op := Op.buildSlice 235 4 #[(0, Operand.tmp 4), (1, Operand.tmp 11), (2, Operand.tmp 16), (3, Operand.tmp 24)], type := 235, pos := "lsp.go:246", after := #[{ on := 1, ground := Ground.data }, { on := 8, ground := Ground.data }, { on := 13, ground := Ground.data }, { on := 21, ground := Ground.data }], guard := none }) rfl (fun K' hK => ?_) AllReadyH.nil)
    rw [if_pos (by rfl)]
    go_simp
    obtain ⟨w22, hw22⟩ : ∃ V, w20.alloc (.cells #[.string ⟨#[112, 111, 115, 105, 116, 105, 111, 110, 69, 110, 99, 111, 100, 105, 110, 103]⟩, .int .i64 4, .string ⟨#[117, 116, 102, 45, 49, 54]⟩, .slice none 0 0, .slice none 0 0, .string ⟨#[116, 101, 120, 116, 68, 111, 99, 117, 109, 101, 110, 116, 83, 121, 110, 99]⟩, .int .i64 6, .string ⟨#[]⟩, .slice ka 2 ca, .slice ia 2 da, .string ⟨#[114, 101, 110, 97, 109, 101, 80, 114, 111, 118, 105, 100, 101, 114]⟩, .int .i64 6, .string ⟨#[]⟩, .slice kb 1 cb, .slice ib 1 db, .string ⟨#[99, 111, 100, 101, 65, 99, 116, 105, 111, 110, 80, 114, 111, 118, 105, 100, 101, 114]⟩, .int .i64 6, .string ⟨#[]⟩, .slice kd 1 cd, .slice id 1 dd] 182) = V := ⟨_, rfl⟩
    have hb22 := alloc_b hw22
    have hr22 := row_at hw22
    rw [hw22]
    obtain ⟨g22, hg22⟩ : ∃ q, w20.heap.size = q := ⟨_, rfl⟩
    rw [hg22] at hr22
    try simp only [hg22]
    replace hS0 : w22.heap[w.heap.size + 1]? = some (.cells #[.int .i64 2, .string ⟨#[]⟩, .slice none 0 0, .slice none 0 0] 25 (0, 0)) ∧ JBox w22 w.heap.size := ⟨(hb22.block _ (ltS hS0.1)).trans hS0.1, hS0.2.same (hb22.block _ hS0.2.lt)⟩
    replace hbw := Below.on hbw hb22
    replace hka := kp_on' hka hb22
    replace hkb := kp_on' hkb hb22
    replace hkd := kp_on' hkd hb22
    refine hK.out _ _ hS0 (fun hH22 => ?_)
    clear hK K'
    try simp only [Act.put, aSA, aSZ, aSS]
    refine wpAnyH_ready (rs := [23]) (by kernel_rfl) (by simp) (AllReadyH.cons (o := { dst := some 26, op := Op.call { callee := Callee.value (Operand.func 119), args := #[Operand.tmp 25], argTypes := #[235] }, type := 25, pos := "lsp.go:246", after := #[{ on := 22, ground := Ground.data }, { on := 20, ground := Ground.chain }], guard := none }) rfl (fun K' hK => ?_) AllReadyH.nil)
    rw [if_pos (by rfl)]
    go_simp
    go_at_call 119
    refine (object_row (w := w22) (g := g22) (c0 := 4) (n := 4) (B := B) [([112, 111, 115, 105, 116, 105, 111, 110, 69, 110, 99, 111, 100, 105, 110, 103], leafI (.mk 4 [117, 116, 102, 45, 49, 54] [] [])), ([116, 101, 120, 116, 68, 111, 99, 117, 109, 101, 110, 116, 83, 121, 110, 99], ⟨.mk 6 [] [[111, 112, 101, 110, 67, 108, 111, 115, 101], [99, 104, 97, 110, 103, 101]] [.mk 2 [] [] [], .mk 3 [50] [] []], ka, ca, ia, da⟩), ([114, 101, 110, 97, 109, 101, 80, 114, 111, 118, 105, 100, 101, 114], ⟨.mk 6 [] [[112, 114, 101, 112, 97, 114, 101, 80, 114, 111, 118, 105, 100, 101, 114]] [.mk 2 [] [] []], kb, cb, ib, db⟩), ([99, 111, 100, 101, 65, 99, 116, 105, 111, 110, 80, 114, 111, 118, 105, 100, 101, 114], ⟨.mk 6 [] [[99, 111, 100, 101, 65, 99, 116, 105, 111, 110, 75, 105, 110, 100, 115]] [.mk 5 [] [] [.mk 4 [114, 101, 102, 97, 99, 116, 111, 114, 46, 105, 110, 108, 105, 110, 101] [] [], .mk 4 [114, 101, 102, 97, 99, 116, 111, 114, 46, 101, 120, 116, 114, 97, 99, 116] [] []]], kd, cd, id, dd⟩)] hr22 rfl (by omega) (by have := hbw.size; omega) (fun f hf => by
          simp only [List.mem_cons, List.not_mem_nil, or_false] at hf
          rcases hf with rfl | rfl | rfl | rfl
          · exact ⟨KP.leaf _ _ _ _, Nat.le_of_ble_eq_true rfl⟩
          · exact ⟨hka, Nat.zero_le _⟩
          · exact ⟨hkb, Nat.zero_le _⟩
          · exact ⟨hkd, Nat.zero_le _⟩) (fun f hf => by
          simp only [List.mem_cons, List.not_mem_nil, or_false] at hf
          rcases hf with rfl | rfl | rfl | rfl <;> exact Nat.le_of_ble_eq_true rfl) _ _ rfl rfl).mono ?_
    rintro e w23 ⟨kf, cf, iff_, df, rfl, hkf, hb23⟩
    replace hS0 : w23.heap[w.heap.size + 1]? = some (.cells #[.int .i64 2, .string ⟨#[]⟩, .slice none 0 0, .slice none 0 0] 25 (0, 0)) ∧ JBox w23 w.heap.size := ⟨(hb23.block _ (ltS hS0.1)).trans hS0.1, hS0.2.same (hb23.block _ hS0.2.lt)⟩
    replace hbw := Below.on hbw hb23
    refine hK.out _ _ hS0 (fun hH23 => ?_)
    clear hK K'
    try simp only [Act.put, aSA, aSZ, aSS]
    refine wpAnyH_take (i := 24) (oi := { dst := some 27, op := Op.build 182 #[(0, Operand.const (Value.string { data := #[99, 97, 112, 97, 98, 105, 108, 105, 116, 105, 101, 115] })), (1, Operand.tmp 26)], type := 182, pos := "lsp.go:246", after := #[{ on := 23, ground := Ground.data }], guard := none }) (v := ?_) rfl (by kernel_rfl) (by kernel_rfl) (by kernel_rfl) (fun _ _ _ h => h) (Or.inl ⟨by rfl, ?_⟩) (by assumption) ?_
    rotate_left
    · intro wx hS; go_simp; with_reducible rfl
    try simp only [Act.put, aSA, aSZ, aSS]
    refine wpAnyH_ready (rs := [25]) (by kernel_rfl) (by simp) (AllReadyH.cons (o := { dst := some 28, op := Op.buildSlice 235 1 #[(0, Operand.tmp 27)], type := 235, pos := "lsp.go:246", after := #[{ on := 24, ground := Ground.data }], guard := none }) rfl (fun K' hK => ?_) AllReadyH.nil)
    rw [if_pos (by rfl)]
    go_simp
    obtain ⟨w25, hw25⟩ : ∃ V, w23.alloc (.cells #[.string ⟨#[99, 97, 112, 97, 98, 105, 108, 105, 116, 105, 101, 115]⟩, .int .i64 6, .string ⟨#[]⟩, .slice kf 4 cf, .slice iff_ 4 df] 182) = V := ⟨_, rfl⟩
    have hb25 := alloc_b hw25
    have hr25 := row_at hw25
    rw [hw25]
    obtain ⟨g25, hg25⟩ : ∃ q, w23.heap.size = q := ⟨_, rfl⟩
    rw [hg25] at hr25
    try simp only [hg25]
    replace hS0 : w25.heap[w.heap.size + 1]? = some (.cells #[.int .i64 2, .string ⟨#[]⟩, .slice none 0 0, .slice none 0 0] 25 (0, 0)) ∧ JBox w25 w.heap.size := ⟨(hb25.block _ (ltS hS0.1)).trans hS0.1, hS0.2.same (hb25.block _ hS0.2.lt)⟩
    replace hbw := Below.on hbw hb25
    replace hkf := kp_on' hkf hb25
    refine hK.out _ _ hS0 (fun hH25 => ?_)
    clear hK K'
    try simp only [Act.put, aSA, aSZ, aSS]
    refine wpAnyH_ready (rs := [26]) (by kernel_rfl) (by simp) (AllReadyH.cons (o := { dst := some 29, op := Op.call { callee := Callee.value (Operand.func 119), args := #[Operand.tmp 28], argTypes := #[235] }, type := 25, pos := "lsp.go:246", after := #[{ on := 25, ground := Ground.data }, { on := 23, ground := Ground.chain }], guard := none }) rfl (fun K' hK => ?_) AllReadyH.nil)
    rw [if_pos (by rfl)]
    go_simp
    go_at_call 119
    refine (object_row (w := w25) (g := g25) (c0 := 1) (n := 1) (B := B) [([99, 97, 112, 97, 98, 105, 108, 105, 116, 105, 101, 115], ⟨.mk 6 [] [[112, 111, 115, 105, 116, 105, 111, 110, 69, 110, 99, 111, 100, 105, 110, 103], [116, 101, 120, 116, 68, 111, 99, 117, 109, 101, 110, 116, 83, 121, 110, 99], [114, 101, 110, 97, 109, 101, 80, 114, 111, 118, 105, 100, 101, 114], [99, 111, 100, 101, 65, 99, 116, 105, 111, 110, 80, 114, 111, 118, 105, 100, 101, 114]] [.mk 4 [117, 116, 102, 45, 49, 54] [] [], .mk 6 [] [[111, 112, 101, 110, 67, 108, 111, 115, 101], [99, 104, 97, 110, 103, 101]] [.mk 2 [] [] [], .mk 3 [50] [] []], .mk 6 [] [[112, 114, 101, 112, 97, 114, 101, 80, 114, 111, 118, 105, 100, 101, 114]] [.mk 2 [] [] []], .mk 6 [] [[99, 111, 100, 101, 65, 99, 116, 105, 111, 110, 75, 105, 110, 100, 115]] [.mk 5 [] [] [.mk 4 [114, 101, 102, 97, 99, 116, 111, 114, 46, 105, 110, 108, 105, 110, 101] [] [], .mk 4 [114, 101, 102, 97, 99, 116, 111, 114, 46, 101, 120, 116, 114, 97, 99, 116] [] []]]], kf, cf, iff_, df⟩)] hr25 rfl (by omega) (by have := hbw.size; omega) (fun f hf => by
          obtain rfl := List.mem_singleton.1 hf
          exact ⟨hkf, Nat.zero_le _⟩) (fun f hf => by
          obtain rfl := List.mem_singleton.1 hf <;> exact Nat.le_of_ble_eq_true rfl) _ _ rfl rfl).mono ?_
    rintro e w26 ⟨kp, kc, ip, ic, rfl, hkp, hb26⟩
    replace hS0 : w26.heap[w.heap.size + 1]? = some (.cells #[.int .i64 2, .string ⟨#[]⟩, .slice none 0 0, .slice none 0 0] 25 (0, 0)) ∧ JBox w26 w.heap.size := ⟨(hb26.block _ (ltS hS0.1)).trans hS0.1, hS0.2.same (hb26.block _ hS0.2.lt)⟩
    replace hbw := Below.on hbw hb26
    refine hK.out _ _ hS0 (fun hH26 => ?_)
    clear hK K'
    try simp only [Act.put, aSA, aSZ, aSS]
    refine wpAnyH_ready (rs := [27]) (by kernel_rfl) (by simp) (AllReadyH.cons (o := { dst := none, op := Op.store 25 (Operand.tmp 0) (Operand.tmp 29), type := 0, pos := "lsp.go:246", after := #[{ on := 26, ground := Ground.data }, { on := 26, ground := Ground.chain }, { on := 0, ground := Ground.phase }, { on := 1, ground := Ground.phase }, { on := 2, ground := Ground.phase }, { on := 3, ground := Ground.phase }, { on := 4, ground := Ground.phase }, { on := 5, ground := Ground.phase }, { on := 6, ground := Ground.phase }, { on := 7, ground := Ground.phase }, { on := 8, ground := Ground.phase }, { on := 9, ground := Ground.phase }, { on := 10, ground := Ground.phase }, { on := 11, ground := Ground.phase }, { on := 12, ground := Ground.phase }, { on := 13, ground := Ground.phase }, { on := 14, ground := Ground.phase }, { on := 15, ground := Ground.phase }, { on := 16, ground := Ground.phase }, { on := 17, ground := Ground.phase }, { on := 18, ground := Ground.phase }, { on := 19, ground := Ground.phase }, { on := 20, ground := Ground.phase }, { on := 21, ground := Ground.phase }, { on := 22, ground := Ground.phase }, { on := 23, ground := Ground.phase }, { on := 24, ground := Ground.phase }, { on := 25, ground := Ground.phase }, { on := 26, ground := Ground.phase }], guard := none }) rfl (fun K' hK => ?_) AllReadyH.nil)
    rw [if_pos (by rfl)]
    refine wp_store_J (.tmp 0) (.tmp 29) rfl w.heap.size rfl (.int .i64 6) (.string ⟨#[]⟩) (.slice kp 1 kc) (.slice ip 1 ic) rfl ⟨rfl, rfl, rfl, rfl⟩ rfl hS0.2 (fun V6 hV6 hg6 _ => ?_)
    refine hK.out _ _ ⟨(hg6.block _ (ltS hS0.1) (by simp)).trans hS0.1, ⟨_, _, _, _, hV6⟩⟩ (fun hH27 => ?_)
    clear hK K'
    try simp only [Act.put]
    refine wpAnyH_done (by kernel_rfl) ?_ _
    go_wp2_with fail
    refine bodyPost_ret (ret_val Tryz.results67 rfl hV6) rfl ?_
    exact ⟨kp, kc, ip, ic, rfl, (hkp.fr (FrP.of (P := fun q => q = w.heap.size) hg6 rfl) (fun q hq e => by omega)).keep (Nat.le_refl _) (fun _ _ _ => rfl) (fun q hq _ => by omega), below_gbz (Below.on HW.out hbw) (Nat.le_refl _) hg6⟩
end Go.Proofs.Ls
